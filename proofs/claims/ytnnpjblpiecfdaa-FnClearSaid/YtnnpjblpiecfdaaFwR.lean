/- A function's contract, out of its body. -/
import Derived.Test.YtnnpjblpiecfdaaFwQ
namespace Go.Proofs.Ytnnpjblpiecfdaa.Fw
open Go.RowKit
set_option linter.unusedVariables false
set_option linter.unusedSimpArgs false

def startS (io : Option (TypeId × List CV)) (args : List AV) (ntmps : Nat) : AState :=
  match io with
  | none => { tmps := args ++ List.replicate (ntmps - args.length) .junk, objs := fun _ => none, next := 1 }
  | some (t, cells) => { tmps := .ref 0 0 :: (args ++ List.replicate (ntmps - (args.length + 1)) .junk), objs := upd (fun _ => none) 0 (some (.box t (cells.map .c))), next := 1 }

def ares (T : Tab) (s : AState) : ResultVar → Option AV
  | .tmp t => some (s.tmps.getD t .junk)
  | .cell ad t => match T.get t with
    | some i => match readAt s i.size (s.tmps.getD ad .junk) with
      | some cs => if i.d.isAgg then some (.agg cs) else (match cs with | [x] => some x | _ => none)
      | none => none
    | none => none

def aresAll (T : Tab) (s : AState) : List ResultVar → Option (List AV)
  | [] => some []
  | r :: rs => match ares T s r, aresAll T s rs with
    | some x, some xs => some (x :: xs)
    | _, _ => none

def aresults (T : Tab) (s : AState) (rs : List ResultVar) : Option AV :=
  match aresAll T s rs with
  | some [x] => some x
  | some xs => some (.tup xs)
  | none => none

def outT1 (s : AState) (x : AV) : T1 → Prop
  | .c y => snap1 s 100 x = some y
  | .agg cs => ∃ xs, x = .agg xs ∧ snapL s 100 xs = some cs
  | .own _ _ _ => False

def outOwn (s : AState) (x : AV) (e sz : Nat) (rows : List (List CV)) : Prop := ∃ l, x = .lsl l sz 0 rows.length ∧ s.objs l = some (.arr e sz rows)
/-- s1: the state without the object that is handed back. -/
def outTs (s s1 : AState) : List AV → List T1 → Prop
  | [], [] => True
  | x :: xs, .own e sz rows :: ts => outOwn s x e sz rows ∧ outTs s s1 xs ts
  | x :: xs, t :: ts => outT1 s1 x t ∧ outTs s s1 xs ts
  | _, _ => False
def ownL : List AV → List T1 → Option Nat
  | .lsl l _ _ _ :: _, .own .. :: _ => some l
  | _ :: xs, _ :: ts => ownL xs ts
  | _, _ => none
def dropL (s : AState) : Option Nat → AState
  | some l => s.drop l
  | none => s

/-- The result, told without the local objects. -/
def outRV (s : AState) (x : AV) : RV → Prop
  | .c y => snap1 s 100 x = some y
  | .own e sz rows => outOwn s x e sz rows
  | .agg cs => ∃ xs, x = .agg xs ∧ snapL s 100 xs = some cs
  | .tup ts => ∃ xs, x = .tup xs ∧ owns ts ≤ 1 ∧ outTs s (dropL s (ownL xs ts)) xs ts
  | .obox t cells => ∃ l cs, x = .ref l 0 ∧ s.objs l = some (.box t cs) ∧ toCVs cs = some cells

def outIo (s : AState) (out : List CV) : Option (TypeId × List CV) → Prop
  | none => True
  | some (t, _) => ∃ cells, s.objs 0 = some (.box t cells) ∧ toCVs cells = some out

/-- What must hold where the function returns. -/
def fpost (T : Tab) (rs : List ResultVar) (io : Option (TypeId × List CV)) (out : List CV) (r : RV) : APost :=
  fun e s => (e = .normal ∨ e = .ret) ∧ ∃ x, aresults T s rs = some x ∧ outRV (if io.isSome then s.drop 0 else s) x r ∧ outIo s out io

section
variable {P : Program} {T : Tab} {E : Entry} {s : AState} {a : Act} {w : World} {F : Nat → Prop} {B : Beta} {U : Nat → Prop}

def resOne (tmps : Array Value) : ResultVar → Sem Value
  | .tmp t => pure (tmps.getD t undef)
  | .cell a t => do loadVar t (← asAddr (tmps.getD a undef))

theorem results_eq (fn : Func) (tmps : Array Value) : results fn tmps = (do
    let vs ← fn.results.mapM (resOne tmps)
    pure (if h : vs.size = 1 then vs[0] else .tuple vs)) := by
  unfold results
  congr 1

theorem ares_sound (hT : Tab.ok P T = true) (h : RelB E s a w F B U) {r : ResultVar} {x : AV} (he : ares T s r = some x) : ∃ v, (resOne a.tmps r).run P w = .ok v w ∧ ARep w F B v x := by
  cases r with
  | tmp t =>
    simp only [ares, Option.some.injEq] at he
    subst he
    exact ⟨_, rfl, eval_rep h (.tmp t)⟩
  | cell ad t =>
    simp only [ares] at he
    split at he
    · rename_i i hi
      split at he
      · rename_i cs hcs
        have hp := eval_rep h (.tmp ad)
        have hlo := eval_lo h (.tmp ad)
        obtain ⟨ad', vs, hr⟩ := readAt_sound h (x := s.tmps.getD ad .junk) hcs hp hlo
        obtain ⟨v, h1, h2, _⟩ := load_sound hT h hi (p := s.tmps.getD ad .junk) hcs hp hlo he
        have hptr : a.tmps.getD ad undef = .pointer (some ad') := hr.ptr
        refine ⟨v, ?_, h2⟩
        have h1' : (loadVar t ad').run P w = .ok v w := by
          have := h1
          rw [show a.eval (.tmp ad) = a.tmps.getD ad undef from rfl, hptr] at this
          simpa [Instr.loadAt, Instr.sureAddr] using this
        simp only [resOne, hptr, asAddr]
        simpa using h1'
      · cases he
    · cases he

theorem aresAll_sound (hT : Tab.ok P T = true) (h : RelB E s a w F B U) : ∀ {rs : List ResultVar} {xs : List AV}, aresAll T s rs = some xs → ∃ vs : List Value, (rs.mapM (resOne a.tmps)).run P w = .ok vs w ∧ vs.length = xs.length ∧ ∀ (i : Nat) x v, xs[i]? = some x → vs[i]? = some v → ARep w F B v x
  | [], xs, he => by
    simp only [aresAll, Option.some.injEq] at he
    subst he
    exact ⟨[], rfl, rfl, fun i x v hx => by simp at hx⟩
  | r :: rs, xs, he => by
    simp only [aresAll] at he
    split at he
    · rename_i x xs' h1 h2
      cases he
      obtain ⟨v, g1, g2⟩ := ares_sound hT h h1
      obtain ⟨vs, g3, g4, g5⟩ := aresAll_sound hT h h2
      refine ⟨v :: vs, ?_, by simp [g4], fun i y u hy hu => ?_⟩
      · rw [List.mapM_cons, Sem.run_bind]
        rw [g1]
        simp [g3]
      · cases i with
        | zero =>
          simp only [List.getElem?_cons_zero, Option.some.injEq] at hy hu
          subst hy hu
          exact g2
        | succ i => exact g5 i y u (by simpa using hy) (by simpa using hu)
    · cases he

theorem aresults_sound (hT : Tab.ok P T = true) (h : RelB E s a w F B U) {fn : Func} {x : AV} (he : aresults T s fn.results.toList = some x) : ∃ v, (results fn a.tmps).run P w = .ok v w ∧ ARep w F B v x := by
  unfold aresults at he
  have fin : ∀ xs, aresAll T s fn.results.toList = some xs → ∃ vs : List Value, (results fn a.tmps).run P w = .ok (if h : vs.toArray.size = 1 then vs.toArray[0] else .tuple vs.toArray) w ∧ vs.length = xs.length ∧ ∀ (i : Nat) x v, xs[i]? = some x → vs[i]? = some v → ARep w F B v x := by
    intro xs hxs
    obtain ⟨vs, g1, g2, g3⟩ := aresAll_sound hT h hxs
    refine ⟨vs, ?_, g2, g3⟩
    rw [results_eq, Sem.run_bind, Array.mapM_eq_mapM_toList, Sem.run_map, g1]
    rfl
  split at he
  · rename_i y hy
    cases he
    obtain ⟨vs, g1, g2, g3⟩ := fin _ hy
    obtain ⟨v, rfl⟩ : ∃ v, vs = [v] := by
      match vs, g2 with
      | [v], _ => exact ⟨v, rfl⟩
    exact ⟨v, by simpa using g1, g3 0 x v rfl rfl⟩
  · rename_i xs hne hxs
    cases he
    obtain ⟨vs, g1, g2, g3⟩ := fin _ hxs
    have hl : ¬ vs.toArray.size = 1 := by
      intro e
      simp only [List.size_toArray] at e
      rw [g2] at e
      match xs, e, hne with
      | [y], _, hne => exact hne y rfl
    rw [dif_neg hl] at g1
    exact ⟨_, g1, .tup (by simpa using g2) (fun i y v hy hv => g3 i y v hy (by simpa using hv))⟩
  · cases he

theorem outT1_sound (h : RelB E s a w F B U) {v : Value} {x : AV} {t : T1} {base : Nat} (ho : outT1 s x t) (hx : ARep w F B v x) : T1Rep w (withObjs F B) base v t := by
  cases t with
  | c y => exact snap1_sound h 100 ho hx
  | agg cs =>
    obtain ⟨xs, rfl, hs⟩ := ho
    cases hx with | @agg C _ h1 h2 =>
    obtain ⟨g1, g2⟩ := snapL_sound h 100 (vs := C.toList) hs (by simpa using h1) (fun i x v hx hv => h2 i x v hx (by simpa using hv))
    exact ⟨C, rfl, by simpa using g1, fun i x v hx hv => g2 i x v hx (by simpa using hv)⟩
  | own e sz rows => exact ho.elim

theorem outTs_get {s1 : AState} : ∀ {xs : List AV} {ts : List T1}, outTs s s1 xs ts → xs.length = ts.length ∧ ∀ (i : Nat) x t, xs[i]? = some x → ts[i]? = some t → (∃ e sz rows, t = .own e sz rows ∧ outOwn s x e sz rows) ∨ (t.isOwn = false ∧ outT1 s1 x t)
  | [], [], _ => ⟨rfl, fun i x t hx => by simp at hx⟩
  | x :: xs, t :: ts, h => by
    have h' : ((∃ e sz rows, t = .own e sz rows ∧ outOwn s x e sz rows) ∨ (t.isOwn = false ∧ outT1 s1 x t)) ∧ outTs s s1 xs ts := by
      cases t with
      | own e sz rows => exact ⟨.inl ⟨e, sz, rows, rfl, h.1⟩, h.2⟩
      | c y => exact ⟨.inr ⟨rfl, h.1⟩, h.2⟩
      | agg cs => exact ⟨.inr ⟨rfl, h.1⟩, h.2⟩
    obtain ⟨g1, g2⟩ := outTs_get h'.2
    refine ⟨by simp [g1], fun i y u hy hu => ?_⟩
    cases i with
    | zero =>
      simp only [List.getElem?_cons_zero, Option.some.injEq] at hy hu
      subst hy hu
      exact h'.1
    | succ i => exact g2 i y u (by simpa using hy) (by simpa using hu)
  | [], _ :: _, h => by simp [outTs] at h
  | _ :: _, [], h => by simp [outTs] at h

theorem ownL_some {s1 : AState} : ∀ {xs : List AV} {ts : List T1}, outTs s s1 xs ts → (∃ t ∈ ts, t.isOwn = true) → ∃ (k l : Nat) (e sz : Nat) (rows : List (List CV)), ownL xs ts = some l ∧ xs[k]? = some (.lsl l sz 0 rows.length) ∧ ts[k]? = some (.own e sz rows) ∧ s.objs l = some (.arr e sz rows)
  | [], [], _, h => by simp at h
  | [], _ :: _, h, _ => by simp [outTs] at h
  | _ :: _, [], h, _ => by simp [outTs] at h
  | x :: xs, .own e sz rows :: ts, h, _ => by
    obtain ⟨⟨l, rfl, ho⟩, _⟩ := h
    exact ⟨0, l, e, sz, rows, rfl, rfl, rfl, ho⟩
  | x :: xs, .c y :: ts, h, ⟨t, ht, hto⟩ => by
    obtain ⟨k, l, e, sz, rows, g1, g2, g3, g4⟩ := ownL_some h.2 ⟨t, by
      rcases List.mem_cons.1 ht with rfl | ht
      · simp [T1.isOwn] at hto
      · exact ht, hto⟩
    refine ⟨k + 1, l, e, sz, rows, ?_, g2, g3, g4⟩
    cases x <;> exact g1
  | x :: xs, .agg y :: ts, h, ⟨t, ht, hto⟩ => by
    obtain ⟨k, l, e, sz, rows, g1, g2, g3, g4⟩ := ownL_some h.2 ⟨t, by
      rcases List.mem_cons.1 ht with rfl | ht
      · simp [T1.isOwn] at hto
      · exact ht, hto⟩
    refine ⟨k + 1, l, e, sz, rows, ?_, g2, g3, g4⟩
    cases x <;> exact g1
theorem ownL_none : ∀ {xs : List AV} {ts : List T1}, (∀ t ∈ ts, t.isOwn = false) → ownL xs ts = none
  | [], [], _ => rfl
  | [], t :: ts, h => by cases t <;> first | rfl | (have := h _ List.mem_cons_self; simp [T1.isOwn] at this)
  | x :: xs, [], h => by cases x <;> rfl
  | x :: xs, t :: ts, h => by
    have ih := ownL_none (xs := xs) (ts := ts) (fun u hu => h u (List.mem_cons_of_mem _ hu))
    have h1 := h t List.mem_cons_self
    cases t with
    | own e sz rows => simp [T1.isOwn] at h1
    | c y => cases x <;> exact ih
    | agg y => cases x <;> exact ih

/-- The blocks that a result may read, and the result. -/
theorem outRV_sound (h : RelB E s a w F B U) {v : Value} {x : AV} {r : RV} {base : Nat} (hbase : ∀ l b n, B l = some (b, n) → base ≤ b) (ho : outRV s x r) (hx : ARep w F B v x) :
    ∃ F', (∀ b, F' b → withObjs F B b) ∧ (∀ b, F b → F' b) ∧ RRep w F' base v r := by
  cases r with
  | c y => exact ⟨withObjs F B, fun _ h => h, fun _ h => .inl h, snap1_sound h 100 ho hx⟩
  | agg cs =>
    obtain ⟨xs, rfl, hs⟩ := ho
    cases hx with | @agg C _ h1 h2 =>
    obtain ⟨g1, g2⟩ := snapL_sound h 100 (vs := C.toList) hs (by simpa using h1) (fun i x v hx hv => h2 i x v hx (by simpa using hv))
    exact ⟨withObjs F B, fun _ h => h, fun _ h => .inl h, C, rfl, by simpa using g1, fun i x v hx hv => g2 i x v hx (by simpa using hv)⟩
  | tup ts =>
    obtain ⟨xs, rfl, hone, hs⟩ := ho
    obtain ⟨g1, g2⟩ := outTs_get hs
    cases hx with | @tup C _ h1 h2 =>
    by_cases hown : ∃ t ∈ ts, t.isOwn = true
    · obtain ⟨k, l, e, sz, rows, k1, k2, k3, k4⟩ := ownL_some hs hown
      rw [k1] at g2
      have hd := h.drop l
      obtain ⟨b, n, hb, C0, hC, hCs, hrl, hmx, hCr⟩ := obj_B h k4
      have hFb : ¬ withObjs F (fun k => if k = l then none else B k) b := by
        rintro (hb' | ⟨m, n', hb'⟩)
        · exact h.apart l b n hb hb'
        · by_cases hml : m = l
          · simp [hml] at hb'
          · simp only [if_neg hml] at hb'
            exact hml (h.inj m l b n' n hb' hb)
      refine ⟨withObjs F (fun k => if k = l then none else B k), fun c hc => ?_, fun _ h => .inl h, C, rfl, h1.trans g1, hone, fun i t v ht hv => ?_⟩
      · rcases hc with hc | ⟨m, n', hc⟩
        · exact .inl hc
        · by_cases hml : m = l
          · simp [hml] at hc
          · simp only [if_neg hml] at hc
            exact .inr ⟨m, n', hc⟩
      · have hi : i < xs.length := by rw [g1]; exact (List.getElem?_eq_some_iff.1 ht).1
        have hxi := List.getElem?_eq_getElem hi
        have hrep := h2 i _ v hxi hv
        rcases g2 i _ t hxi ht with ⟨e', sz', rows', rfl, ho'⟩ | ⟨ho1, ho2⟩
        · have hik : i = k := owns_uniq hone ht k3
          subst hik
          rw [k3] at ht
          cases ht
          rw [k2] at hxi
          have hxl : xs[i] = .lsl l sz 0 rows.length := (Option.some.inj hxi).symm
          rw [hxl] at hrep
          cases hrep with | lsl hrep =>
          obtain ⟨q1, ad, rfl, q2⟩ := hrep b n hb
          obtain rfl := q2 (.inr rfl)
          exact ⟨b, n, C0, by rw [Nat.zero_mul, Nat.sub_zero], hC, hCs, hrl, hmx, hbase l b n hb, hFb, fun i row hr => ⟨(hCr i row hr).1, fun j x v hx hv => ((hCr i row hr).2 j x v hx hv).keep (fun _ h => .inl h) (fun _ _ => rfl)⟩⟩
        · refine outT1_sound hd ho2 (hrep.keep (N := fun _ => True) (fun _ h => h) (fun _ _ => rfl) (fun m _ => ?_) (lo_true _))
          by_cases e : m = l
          · exact .inr (if_pos e)
          · exact .inl (if_neg e)
    · have hno : ∀ t ∈ ts, t.isOwn = false := fun t ht => by
        cases ho : t.isOwn with
        | false => rfl
        | true => exact absurd ⟨t, ht, ho⟩ hown
      rw [ownL_none hno] at g2
      refine ⟨withObjs F B, fun _ h => h, fun _ h => .inl h, C, rfl, h1.trans g1, hone, fun i t v ht hv => ?_⟩
      have hi : i < xs.length := by rw [g1]; exact (List.getElem?_eq_some_iff.1 ht).1
      rcases g2 i _ t (List.getElem?_eq_getElem hi) ht with ⟨e', sz', rows', rfl, ho'⟩ | ⟨ho1, ho2⟩
      · have := hno _ (List.mem_of_getElem? ht)
        simp [T1.isOwn] at this
      · exact outT1_sound h ho2 (h2 i _ v (List.getElem?_eq_getElem hi) hv)
  | obox t cells =>
    obtain ⟨l, cs, rfl, hl, hc⟩ := ho
    obtain ⟨b, n, hb, C, hC, hCs, hCr⟩ := obj_B h hl
    cases hx with | ref hx =>
    refine ⟨F, fun _ h => .inl h, fun _ h => h, b, hx b n hb, ⟨C, hC, by rw [hCs, toCVs_some hc, List.length_map], fun j y u hy hu => ?_⟩, hbase l b n hb, h.apart l b n hb⟩
    have := hCr j (.c y) u (by rw [toCVs_some hc, List.getElem?_map, hy]; rfl) hu
    cases this with | c this => exact this
  | own e sz rows =>
    obtain ⟨l, rfl, hl⟩ := ho
    obtain ⟨b, n, hb, C, hC, hCs, hrl, hmx, hCr⟩ := obj_B h hl
    cases hx with | lsl hx =>
    obtain ⟨h1, ad, rfl, h2⟩ := hx b n hb
    obtain rfl := h2 (.inr rfl)
    exact ⟨F, fun _ h => .inl h, fun _ h => h, b, n, C, by rw [Nat.zero_mul, Nat.sub_zero], hC, hCs, hrl, hmx, hbase l b n hb, h.apart l b n hb, hCr⟩

theorem start_none {S : Nat → Prop} {vs : List Value} {args : List AV} {ntmps : Nat} (hS : ∀ b, S b → b < w.heap.size) (hld : LD w S) (hv : Vals w S vs args) (hlo : ∀ x ∈ args, x.lo (fun _ => False)) :
    Rel ⟨w, S, fun _ => False, 1, hld, fun _ _ h => h⟩ (startS none args ntmps) { tmps := vs.toArray ++ Array.replicate (ntmps - vs.toArray.size) undef, defers := [] } w := by
  refine ⟨S, noB, fun _ => False, ?_, fun l h => h.elim⟩
  have hsz : vs.toArray.size = args.length := by simpa using hv.1
  refine { size := by simp [startS, hsz, hv.1], tmps := ?_, defers := rfl, live := fun l => by simp [startS, noB], objs := fun l b n o hb => by simp [noB] at hb, inj := fun l l' b n n' hb => by simp [noB] at hb, apart := fun l b n hb => by simp [noB] at hb, flt := hS, blt := fun l b n hb => by simp [noB] at hb, fsrc := fun b hb => .inl hb, bsrc := fun l b n hb => by simp [noB] at hb, frame := fun _ _ _ => rfl, grown := Nat.le_refl _, os := rfl, tape := rfl, output := rfl, wfT := ?_, wfO := fun l o ho => by simp [startS] at ho, anchor := fun p hp => hp.elim }
  · intro i x v hx hvv
    simp only [startS] at hx
    by_cases hi : i < args.length
    · rw [List.getElem?_append_left hi] at hx
      rw [Array.getElem?_append_left (by rw [hsz]; exact hi)] at hvv
      exact hv.2 i x v hx (by simpa using hvv)
    · rw [List.getElem?_append_right (by omega)] at hx
      obtain ⟨hi', rfl⟩ : i - args.length < ntmps - args.length ∧ x = .junk := by
        rw [List.getElem?_replicate] at hx
        split at hx
        · exact ⟨‹_›, (Option.some.inj hx).symm⟩
        · cases hx
      exact .junk
  · intro x hx
    simp only [startS, List.mem_append, List.mem_replicate] at hx
    rcases hx with hx | ⟨_, rfl⟩
    · exact hlo x hx
    · simp only [AV.lo]

theorem start_some {S : Nat → Prop} {vs : List Value} {args : List AV} {ntmps p : Nat} {t : TypeId} {cells : List CV} (hS : ∀ b, S b → b < w.heap.size) (hld : LD w S) (hlp : ∀ x ∈ tabs, ¬ x.1 = p) (hv : Vals w S vs args) (hlo : ∀ x ∈ args, x.lo (fun _ => False)) (hp : VarAt w S p t cells) (hSp : ¬ S p) :
    Rel ⟨w, S, fun b => b = p, 1, hld, hlp⟩ (startS (some (t, cells)) args ntmps) { tmps := (.pointer (some ⟨p, 0, none⟩) :: vs).toArray ++ Array.replicate (ntmps - (Value.pointer (some ⟨p, 0, none⟩) :: vs).toArray.size) undef, defers := [] } w := by
  obtain ⟨C, hC, hCs⟩ := hp
  have hlt : p < w.heap.size := by
    rcases Nat.lt_or_ge p w.heap.size with q | q
    · exact q
    · rw [Array.getElem?_eq_none q] at hC; cases hC
  have hB : ∀ l b n, (if l = 0 then some (p, 1) else none : Option (Nat × Nat)) = some (b, n) → l = 0 ∧ b = p := by
    intro l b n hb
    split at hb
    · cases hb; exact ⟨‹_›, rfl⟩
    · cases hb
  refine ⟨S, fun l => if l = 0 then some (p, 1) else none, fun l => l = 0, ?_, fun l h => by simp [startS]; omega⟩
  have hsz : vs.length = args.length := hv.1
  refine { size := by simp [startS, hsz]; omega, tmps := ?_, defers := rfl, live := fun l => by by_cases e : l = 0 <;> simp [startS, upd, e], objs := ?_, inj := fun l l' b n n' hb hb' => by rw [(hB _ _ _ hb).1, (hB _ _ _ hb').1], apart := fun l b n hb => by rw [(hB _ _ _ hb).2]; exact hSp, flt := hS, blt := fun l b n hb => by rw [(hB _ _ _ hb).2]; exact hlt, fsrc := fun b hb => .inl hb, bsrc := fun l b n hb => .inl (hB _ _ _ hb).2, frame := fun _ _ _ => rfl, grown := Nat.le_refl _, os := rfl, tape := rfl, output := rfl, wfT := ?_, wfO := ?_, anchor := ?_ }
  · intro i x v hx hvv
    simp only [startS] at hx
    cases i with
    | zero =>
      rw [← Array.getElem?_toList, Array.toList_append, List.getElem?_append_left (by simp)] at hvv
      simp only [List.getElem?_cons_zero, Option.some.injEq] at hx hvv
      subst hx hvv
      exact .ref fun b n hb => by rw [(hB _ _ _ hb).2]
    | succ i =>
      simp only [List.getElem?_cons_succ] at hx
      have hvv' : (vs ++ List.replicate (ntmps - (vs.length + 1)) undef)[i]? = some v := by
        rw [← hvv]
        simp only [← Array.getElem?_toList, Array.toList_append, Array.toList_replicate, List.size_toArray, List.length_cons, List.cons_append, List.getElem?_cons_succ]
      by_cases hi : i < args.length
      · rw [List.getElem?_append_left hi] at hx
        rw [List.getElem?_append_left (by omega)] at hvv'
        exact (hv.2 i x v hx hvv').keep (N := fun _ => False) (fun _ h => h) (fun _ _ => rfl) (fun _ h => h.elim) (hlo x (List.mem_of_getElem? hx))
      · rw [List.getElem?_append_right (by omega)] at hx
        obtain rfl : x = .junk := by
          rw [List.getElem?_replicate] at hx
          split at hx
          · exact (Option.some.inj hx).symm
          · cases hx
        exact .junk
  · intro l b n o hb ho
    obtain ⟨rfl, rfl⟩ := hB _ _ _ hb
    simp only [startS, upd, if_true, Option.some.injEq] at ho
    subst ho
    refine ⟨C, hC, by simpa using hCs.1, fun j x v hx hv => ?_⟩
    simp only [List.getElem?_map, Option.map_eq_some_iff] at hx
    obtain ⟨y, hy, rfl⟩ := hx
    exact .c (hCs.2 j y v hy hv)
  · intro x hx
    simp only [startS, List.mem_cons, List.mem_append, List.mem_replicate] at hx
    rcases hx with rfl | hx | ⟨_, rfl⟩
    · simp only [AV.lo]
    · exact AV.lo_mono (fun _ h => h.elim) x (hlo x hx)
    · simp only [AV.lo]
  · intro l o ho
    by_cases e : l = 0
    · subst e
      simp only [startS, upd, if_true, Option.some.injEq] at ho
      subst ho
      exact ⟨rfl, map_lo _⟩
    · simp [startS, upd, e] at ho
  · intro q hq
    refine ⟨rfl, fun b n hb => ⟨(hB _ _ _ hb).2.trans hq.symm, ?_⟩⟩
    simp only [if_true, Option.some.injEq, Prod.mk.injEq] at hb
    exact hb.2.symm

/-- What must hold where the function returns; the result may be told more closely there. -/
def fpostW (T : Tab) (rs : List ResultVar) (io : Option (TypeId × List CV)) (out : List CV) (r : RV) : APost :=
  fun e s => ∃ r0 out0, RWk r0 r ∧ CWkL out0 out ∧ fpost T rs io out0 r0 e s
/-- THE CONTRACT OUT OF THE BODY. -/
theorem ldo_of {S : Nat → Prop} {p : Nat} {l : List Value} {io : Option (TypeId × List CV)} (hld : LD w S) (hio : IoIn w S p l io) : ∀ x ∈ tabs, ¬ IoOwn p io x.1 := by
  rintro x hx ⟨h1, h2⟩
  cases io with
  | none => cases h1
  | some tc => exact hio.2.2 (h2 ▸ (hld x hx).1)
theorem Ret.introW (hT : Tab.ok P T = true) {f : FuncId} {fn : Func} {c : Code} (hf : P.funcs[f]? = some fn) (hname : (fn.name == "runtime.NumGoroutine") = false) (hb : fn.body = some c) {ntmps : Nat} (hnt : fn.ntmps = ntmps) {rs : List ResultVar} (hrs : fn.results.toList = rs) {io : Option (TypeId × List CV)} {args : List AV} {out : List CV} {r : RV}
    (hlo : ∀ x ∈ args, x.lo (fun _ => False)) (h : ∀ E, AWP P E c (fpostW T rs io out r) (startS io args ntmps)) : Ret P f io args out r := by
  subst hnt hrs
  refine ⟨⟨fn, hf, hname, by rw [hb]; rfl⟩, hlo, fun w S p l vs hS hld hio hv => ?_⟩
  have fin : ∀ (a0 : Array Value), Rel ⟨w, S, fun b => IoOwn p io b, 1, hld, ldo_of hld hio⟩ (startS io args fn.ntmps) { tmps := a0 ++ Array.replicate (fn.ntmps - a0.size) undef, defers := [] } w →
      Calls P f a0 w (fun e w' => ∃ v F', e = .returned v ∧ PostC w S io p out r v w' F') := by
    intro a0 hrel
    refine calls_of_wp hf hb (wp_mono (h _ _ w hrel) ?_)
    rintro e a' w' ⟨s', ⟨r0, out0, hw1, hw2, he, x, hx, ho, hio'⟩, F, B, U, hr, hU⟩
    obtain ⟨v, hv1, hv2⟩ := aresults_sound hT hr hx
    suffices hpost : ∃ F', PostC w S io p out0 r0 v w' F' by
      obtain ⟨F', hp⟩ := hpost
      have hp := hp.weak hw1 hw2
      rcases he with rfl | rfl
      · exact ⟨hr.defers, v, hv1, v, F', rfl, hp⟩
      · exact ⟨hr.defers, v, hv1, v, F', rfl, hp⟩
    show ∃ F', PostC w S io p out0 r0 v w' F'
    · skip
      cases io with
      | none =>
        have hnot : ∀ b, ¬ IoOwn p none b := by intro b hb; simp [IoOwn] at hb
        have hbs : ∀ l b n, B l = some (b, n) → w.heap.size ≤ b := fun l b n hb => (hr.bsrc l b n hb).resolve_left (hnot b)
        obtain ⟨F', h1, h2, h3⟩ := outRV_sound hr (base := w.heap.size) hbs ho hv2
        refine ⟨F', fun b hb => ?_, fun b hb => ?_, h3, trivial, fun b hb _ => hr.frame b hb (hnot b), hr.grown, hr.os, hr.tape, hr.output⟩
        · rcases h1 b hb with q | ⟨l, n, q⟩
          · rcases hr.fsrc b q with q | q | q
            · exact .inl q
            · exact absurd q (hnot b)
            · exact .inr q
          · exact .inr (hbs l b n q)
        · rcases h1 b hb with q | ⟨l, n, q⟩
          · exact hr.flt b q
          · exact hr.blt l b n q
      | some tc =>
        obtain ⟨t, cells⟩ := tc
        have hd := hr.drop 0
        have hown : ∀ b, (IoOwn p (some (t, cells)) b) ↔ b = p := by intro b; simp [IoOwn]
        obtain ⟨cells', hc1, hc2⟩ := hio'
        obtain ⟨q, n, hq, C, hC, hCs, hCr⟩ := obj_B hr hc1
        obtain rfl : q = p := ((hr.anchor p ((hown p).2 rfl)).2 q n hq).1
        have hbs : ∀ l b n, (if l = 0 then none else B l : Option (Nat × Nat)) = some (b, n) → w.heap.size ≤ b := by
          intro l b m hb
          split at hb
          · cases hb
          · rename_i hl0
            refine (hr.bsrc l b m hb).resolve_left fun hb' => ?_
            have := (hown b).1 hb'
            subst this
            exact hl0 (hr.inj l 0 b m n hb hq)
        have ho' : outRV (s'.drop 0) x r0 := by simpa using ho
        have hv2' : ARep w' F (fun k => if k = 0 then none else B k) v x := hv2.keep (N := fun _ => True) (fun _ h => h) (fun _ _ => rfl) (fun k _ => by
          by_cases e : k = 0
          · exact .inr (if_pos e)
          · exact .inl (if_neg e)) (AV.lo_mono (fun _ _ => trivial) x (aresults_lo hr hx))
        obtain ⟨F', h1, h2, h3⟩ := outRV_sound hd (base := w.heap.size) hbs ho' hv2'
        have hFq : ¬ F q := hr.apart 0 q n hq
        refine ⟨F', fun b hb => ?_, fun b hb => ?_, h3, ?_, fun b hb hne => hr.frame b hb hne, hr.grown, hr.os, hr.tape, hr.output⟩
        · rcases h1 b hb with g | ⟨l, m, g⟩
          · rcases hr.fsrc b g with g' | g' | g'
            · exact .inl g'
            · have := (hown b).1 g'
              subst this
              exact absurd g hFq
            · exact .inr g'
          · exact .inr (hbs l b m g)
        · rcases h1 b hb with g | ⟨l, m, g⟩
          · exact hr.flt b g
          · exact hd.blt l b m g
        · refine ⟨C, hC, by rw [hCs, toCVs_some hc2, List.length_map], fun j y u hy hu => ?_⟩
          have := hCr j (.c y) u (by rw [toCVs_some hc2, List.getElem?_map, hy]; rfl) hu
          cases this with | c this => exact this.keep h2 (fun _ _ => rfl)
  cases io with
  | none =>
    obtain rfl : l = [] := hio
    rw [List.nil_append]
    refine fin _ ?_
    have := start_none (ntmps := fn.ntmps) hS hld hv hlo
    have he : (fun b => IoOwn p none b) = (fun _ => False) := by funext b; simp [IoOwn]
    have hE : ∀ h, (⟨w, S, fun b => IoOwn p none b, 1, hld, h⟩ : Entry) = ⟨w, S, fun _ => False, 1, hld, fun _ _ h => h⟩ := by
      intro h
      rw [Entry.mk.injEq]
      exact ⟨rfl, rfl, he, rfl⟩
    rw [hE]
    exact this
  | some tc =>
    obtain ⟨t, cells⟩ := tc
    obtain ⟨rfl, h1, h2⟩ := hio
    refine fin _ ?_
    have := start_some (ntmps := fn.ntmps) hS hld (fun x hx (e : x.1 = p) => h2 (e ▸ (hld x hx).1)) hv hlo h1 h2
    have he : (fun b => IoOwn p (some (t, cells)) b) = (fun b => b = p) := by funext b; simp [IoOwn]
    have hE : ∀ h, (⟨w, S, fun b => IoOwn p (some (t, cells)) b, 1, hld, h⟩ : Entry) = ⟨w, S, fun b => b = p, 1, hld, fun x hx (e : x.1 = p) => h2 (e ▸ (hld x hx).1)⟩ := by
      intro h
      rw [Entry.mk.injEq]
      exact ⟨rfl, rfl, he, rfl⟩
    rw [hE]
    exact this
where
  aresults_lo {T : Tab} {E : Entry} {s : AState} {a : Act} {w : World} {F : Nat → Prop} {B : Beta} {U : Nat → Prop} (h : RelB E s a w F B U) {rs : List ResultVar} {x : AV} (he : aresults T s rs = some x) : x.lo U := by
    have h1 : ∀ r x, ares T s r = some x → x.lo U := by
      intro r x hx
      cases r with
      | tmp t =>
        simp only [ares, Option.some.injEq] at hx
        subst hx
        exact eval_lo h (.tmp t)
      | cell ad t =>
        simp only [ares] at hx
        split at hx
        · split at hx
          · rename_i cs hcs
            obtain ⟨ad', vs, hr⟩ := readAt_sound h (x := s.tmps.getD ad .junk) hcs (eval_rep h (.tmp ad)) (eval_lo h (.tmp ad))
            split at hx
            · cases hx
              simp only [AV.lo]
              exact hr.lo
            · split at hx
              · cases hx
                exact hr.lo _ (by simp)
              · cases hx
          · cases hx
        · cases hx
    have h2 : ∀ (rs : List ResultVar) xs, aresAll T s rs = some xs → ∀ y ∈ xs, y.lo U := by
      intro rs
      induction rs with
      | nil => intro xs hx y hy; simp only [aresAll, Option.some.injEq] at hx; subst hx; simp at hy
      | cons r rs ih =>
        intro xs hx y hy
        simp only [aresAll] at hx
        split at hx
        · rename_i z zs g1 g2
          cases hx
          rcases List.mem_cons.1 hy with rfl | hy
          · exact h1 r _ g1
          · exact ih zs g2 y hy
        · cases hx
    unfold aresults at he
    split at he
    · cases he
      exact h2 _ _ ‹_› _ (by simp)
    · cases he
      simp only [AV.lo]
      exact h2 _ _ ‹_›
    · cases he

/-- THE CONTRACT OUT OF THE BODY. -/
theorem Ret.intro (hT : Tab.ok P T = true) {f : FuncId} {fn : Func} {c : Code} (hf : P.funcs[f]? = some fn) (hname : (fn.name == "runtime.NumGoroutine") = false) (hb : fn.body = some c) {ntmps : Nat} (hnt : fn.ntmps = ntmps) {rs : List ResultVar} (hrs : fn.results.toList = rs) {io : Option (TypeId × List CV)} {args : List AV} {out : List CV} {r : RV}
    (hlo : ∀ x ∈ args, x.lo (fun _ => False)) (h : ∀ E, AWP P E c (fpost T rs io out r) (startS io args ntmps)) : Ret P f io args out r :=
  Ret.introW hT hf hname hb hnt hrs hlo fun E => (h E).mono fun e s hq => ⟨r, out, RWk.refl r, CWkL.refl out, hq⟩

end
/-! ### a slice whose elements the function writes -/
def startA (e sz : Nat) (rows : List (List CV)) (args : List AV) (ntmps : Nat) : AState :=
  { tmps := .lsl 0 sz 0 rows.length :: (args ++ List.replicate (ntmps - (args.length + 1)) .junk), objs := upd (fun _ => none) 0 (some (.arr e sz rows)), next := 1 }

def fpostA (T : Tab) (rs : List ResultVar) (e sz : Nat) (rows' : List (List CV)) (r : RV) : APost :=
  fun ex s => (ex = .normal ∨ ex = .ret) ∧ ∃ x, aresults T s rs = some x ∧ outRV (s.drop 0) x r ∧ s.objs 0 = some (.arr e sz rows')

section
variable {P : Program} {T : Tab} {E : Entry} {s : AState} {a : Act} {w : World} {F : Nat → Prop} {B : Beta} {U : Nat → Prop}

theorem start_arr {S : Nat → Prop} {vs : List Value} {args : List AV} {ntmps p n e sz : Nat} {rows : List (List CV)} (hS : ∀ b, S b → b < w.heap.size) (hld : LD w S) (hv : Vals w S vs args) (hlo : ∀ x ∈ args, x.lo (fun _ => False)) (hp : ArrAt w S p n e sz rows) (hSp : ¬ S p) :
    Rel ⟨w, S, fun b => b = p, n, hld, fun x hx e => hSp (e ▸ (hld x hx).1)⟩ (startA e sz rows args ntmps) { tmps := (.slice (some ⟨p, 0, none⟩) rows.length n :: vs).toArray ++ Array.replicate (ntmps - (Value.slice (some ⟨p, 0, none⟩) rows.length n :: vs).toArray.size) undef, defers := [] } w := by
  obtain ⟨C, hC, hCs, hrl, hmx, hCr⟩ := hp
  have hlt : p < w.heap.size := by
    rcases Nat.lt_or_ge p w.heap.size with q | q
    · exact q
    · rw [Array.getElem?_eq_none q] at hC; cases hC
  have hB : ∀ l b m, (if l = 0 then some (p, n) else none : Option (Nat × Nat)) = some (b, m) → l = 0 ∧ b = p ∧ m = n := by
    intro l b m hb
    split at hb
    · cases hb; exact ⟨‹_›, rfl, rfl⟩
    · cases hb
  refine ⟨S, fun l => if l = 0 then some (p, n) else none, fun l => l = 0, ?_, fun l h => by simp [startA]; omega⟩
  have hsz : vs.length = args.length := hv.1
  refine { size := by simp [startA, hsz]; omega, tmps := ?_, defers := rfl, live := fun l => by by_cases e : l = 0 <;> simp [startA, upd, e], objs := ?_, inj := fun l l' b n n' hb hb' => by rw [(hB _ _ _ hb).1, (hB _ _ _ hb').1], apart := fun l b n hb => by rw [(hB _ _ _ hb).2.1]; exact hSp, flt := hS, blt := fun l b n hb => by rw [(hB _ _ _ hb).2.1]; exact hlt, fsrc := fun b hb => .inl hb, bsrc := fun l b n hb => .inl (hB _ _ _ hb).2.1, frame := fun _ _ _ => rfl, grown := Nat.le_refl _, os := rfl, tape := rfl, output := rfl, wfT := ?_, wfO := ?_, anchor := ?_ }
  · intro i x v hx hvv
    simp only [startA] at hx
    cases i with
    | zero =>
      rw [← Array.getElem?_toList, Array.toList_append, List.getElem?_append_left (by simp)] at hvv
      simp only [List.getElem?_cons_zero, Option.some.injEq] at hx hvv
      subst hx hvv
      refine .lsl fun b m hb => ?_
      obtain ⟨_, rfl, rfl⟩ := hB _ _ _ hb
      exact ⟨by omega, _, by rw [Nat.sub_zero], fun _ => by rw [Nat.zero_mul]⟩
    | succ i =>
      simp only [List.getElem?_cons_succ] at hx
      have hvv' : (vs ++ List.replicate (ntmps - (vs.length + 1)) undef)[i]? = some v := by
        rw [← hvv]
        simp only [← Array.getElem?_toList, Array.toList_append, Array.toList_replicate, List.size_toArray, List.length_cons, List.cons_append, List.getElem?_cons_succ]
      by_cases hi : i < args.length
      · rw [List.getElem?_append_left hi] at hx
        rw [List.getElem?_append_left (by omega)] at hvv'
        exact (hv.2 i x v hx hvv').keep (N := fun _ => False) (fun _ h => h) (fun _ _ => rfl) (fun _ h => h.elim) (hlo x (List.mem_of_getElem? hx))
      · rw [List.getElem?_append_right (by omega)] at hx
        obtain rfl : x = .junk := by
          rw [List.getElem?_replicate] at hx
          split at hx
          · exact (Option.some.inj hx).symm
          · cases hx
        exact .junk
  · intro l b m o hb ho
    obtain ⟨rfl, rfl, rfl⟩ := hB _ _ _ hb
    simp only [startA, upd, if_true, Option.some.injEq] at ho
    subst ho
    exact ⟨C, hC, hCs, hrl, hmx, hCr⟩
  · intro x hx
    simp only [startA, List.mem_cons, List.mem_append, List.mem_replicate] at hx
    rcases hx with rfl | hx | ⟨_, rfl⟩
    · simp only [AV.lo]
    · exact AV.lo_mono (fun _ h => h.elim) x (hlo x hx)
    · simp only [AV.lo]
  · intro l o ho
    by_cases e : l = 0
    · subst e
      simp only [startA, upd, if_true, Option.some.injEq] at ho
      subst ho
      exact ⟨rfl, trivial⟩
    · simp [startA, upd, e] at ho
  · intro q hq
    refine ⟨rfl, fun b m hb => ?_⟩
    obtain ⟨_, rfl, rfl⟩ := hB _ _ _ hb
    exact ⟨hq.symm, rfl⟩

def fpostAW (T : Tab) (rs : List ResultVar) (e sz : Nat) (rows' : List (List CV)) (r : RV) : APost := fun ex s => ∃ r0, RWk r0 r ∧ fpostA T rs e sz rows' r0 ex s
theorem RetA.introW (hT : Tab.ok P T = true) {f : FuncId} {fn : Func} {c : Code} (hf : P.funcs[f]? = some fn) (hname : (fn.name == "runtime.NumGoroutine") = false) (hb : fn.body = some c) {ntmps : Nat} (hnt : fn.ntmps = ntmps) {rs : List ResultVar} (hrs : fn.results.toList = rs) {e sz : Nat} {rows rows' : List (List CV)} {args : List AV} {r : RV}
    (hlo : ∀ x ∈ args, x.lo (fun _ => False)) (h : ∀ E, AWP P E c (fpostAW T rs e sz rows' r) (startA e sz rows args ntmps)) : RetA P f e sz rows args rows' r := by
  subst hnt hrs
  refine ⟨⟨fn, hf, hname, by rw [hb]; rfl⟩, hlo, fun w S p n vs hS hld hp hSp hv => ?_⟩
  refine calls_of_wp hf hb (wp_mono (h _ _ w (start_arr (ntmps := fn.ntmps) hS hld hv hlo hp hSp)) ?_)
  rintro ex a' w' ⟨s', ⟨r0, hw0, he, x, hx, ho, hio'⟩, F, B, U, hr, hU⟩
  obtain ⟨v, hv1, hv2⟩ := aresults_sound hT hr hx
  have hpost : ∃ F', PostA w S p n e sz rows' r0 v w' F' := by
    have hd := hr.drop 0
    obtain ⟨q, m, hq, C, hC, hCs, hrl, hmx, hCr⟩ := obj_B hr hio'
    obtain ⟨rfl, rfl⟩ : q = p ∧ m = n := (hr.anchor p rfl).2 q m hq
    have hbs : ∀ l b k, (if l = 0 then none else B l : Option (Nat × Nat)) = some (b, k) → w.heap.size ≤ b := by
      intro l b k hb
      split at hb
      · cases hb
      · rename_i hl0
        refine (hr.bsrc l b k hb).resolve_left fun hb' => ?_
        have hb' : b = q := hb'
        subst hb'
        exact hl0 (hr.inj l 0 b k m hb hq)
    have hv2' : ARep w' F (fun k => if k = 0 then none else B k) v x := hv2.keep (N := fun _ => True) (fun _ h => h) (fun _ _ => rfl) (fun k _ => by
      by_cases e : k = 0
      · exact .inr (if_pos e)
      · exact .inl (if_neg e)) (AV.lo_mono (fun _ _ => trivial) x (Ret.introW.aresults_lo hr hx))
    obtain ⟨F', h1, h2, h3⟩ := outRV_sound hd (base := w.heap.size) hbs ho hv2'
    have hFq : ¬ F q := hr.apart 0 q m hq
    refine ⟨F', fun b hb => ?_, fun b hb => ?_, h3, ?_, fun b hb hne => hr.frame b hb hne, hr.grown, hr.os, hr.tape, hr.output⟩
    · rcases h1 b hb with g | ⟨l, k, g⟩
      · rcases hr.fsrc b g with g' | g' | g'
        · exact .inl g'
        · have g' : b = q := g'
          subst g'
          exact absurd g hFq
        · exact .inr g'
      · exact .inr (hbs l b k g)
    · rcases h1 b hb with g | ⟨l, k, g⟩
      · exact hr.flt b g
      · exact hd.blt l b k g
    · exact ⟨C, hC, hCs, hrl, hmx, fun i row hi => ⟨(hCr i row hi).1, fun j x v hx hv => ((hCr i row hi).2 j x v hx hv).keep h2 (fun _ _ => rfl)⟩⟩
  obtain ⟨F', hp⟩ := hpost
  have hp : PostA w S p n e sz rows' r v w' F' := { hp with res := hw0 hp.res }
  rcases he with rfl | rfl
  · exact ⟨hr.defers, v, hv1, v, F', rfl, hp⟩
  · exact ⟨hr.defers, v, hv1, v, F', rfl, hp⟩
theorem RetA.intro (hT : Tab.ok P T = true) {f : FuncId} {fn : Func} {c : Code} (hf : P.funcs[f]? = some fn) (hname : (fn.name == "runtime.NumGoroutine") = false) (hb : fn.body = some c) {ntmps : Nat} (hnt : fn.ntmps = ntmps) {rs : List ResultVar} (hrs : fn.results.toList = rs) {e sz : Nat} {rows rows' : List (List CV)} {args : List AV} {r : RV}
    (hlo : ∀ x ∈ args, x.lo (fun _ => False)) (h : ∀ E, AWP P E c (fpostA T rs e sz rows' r) (startA e sz rows args ntmps)) : RetA P f e sz rows args rows' r :=
  RetA.introW hT hf hname hb hnt hrs hlo fun E => (h E).mono fun e s hq => ⟨r, RWk.refl r, hq⟩
end
end Go.Proofs.Ytnnpjblpiecfdaa.Fw
