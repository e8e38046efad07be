/- Contracts, and calls. -/
import Derived.Test.YtnnpjblpiecfdaaFwN
namespace Go.Proofs.Ytnnpjblpiecfdaa.Fw
open Go.RowKit
set_option linter.unusedVariables false
set_option linter.unusedSimpArgs false

/-- One of several results. -/
inductive T1 where
  | c (x : CV)
  | agg (cs : List CV)
  | own (e sz : Nat) (rows : List (List CV))

/-- What a call hands back. 'own': a slice that nobody else holds. -/
inductive RV where
  | c (x : CV)
  | own (e sz : Nat) (rows : List (List CV))
  | agg (cs : List CV)
  | tup (xs : List T1)
  | obox (t : TypeId) (cells : List CV)

def T1.av (nid : Nat) : T1 → AV
  | .c x => .c x
  | .agg cs => .agg (cs.map .c)
  | .own _ sz rows => .lsl nid sz 0 rows.length
def T1.isOwn : T1 → Bool
  | .own .. => true
  | _ => false
/-- The slice among several results that nobody else holds, and how many there are. -/
def ownOf : List T1 → Option (Nat × Nat × List (List CV))
  | [] => none
  | .own e sz rows :: _ => some (e, sz, rows)
  | _ :: ts => ownOf ts
def owns : List T1 → Nat
  | [] => 0
  | t :: ts => (if t.isOwn then 1 else 0) + owns ts

def CV.plain : CV → Bool
  | .v _ => true
  | .sl _ _ _ [] => true
  | _ => false

def T1.plain : T1 → Bool
  | .c x => x.plain
  | .agg cs => cs.all CV.plain
  | .own _ _ rows => rows.all fun r => r.all CV.plain

def RV.plain : RV → Bool
  | .c x => x.plain
  | .own _ _ rows => rows.all fun r => r.all CV.plain
  | .agg cs => cs.all CV.plain
  | .tup xs => xs.all T1.plain
  | .obox _ cs => cs.all CV.plain

def CReps (w : World) (F : Nat → Prop) (C : Array Value) (cs : List CV) : Prop := C.size = cs.length ∧ ∀ (i : Nat) x v, cs[i]? = some x → C[i]? = some v → CRep w F v x

def OwnRep (w : World) (F : Nat → Prop) (base : Nat) (v : Value) (e sz : Nat) (rows : List (List CV)) : Prop :=
  ∃ b n C, v = .slice (some ⟨b, 0, none⟩) rows.length n ∧ w.heap[b]? = some (.cells C e (0, 0)) ∧ C.size = n * sz ∧ rows.length ≤ n ∧ n ≤ maxLen ∧ base ≤ b ∧ ¬ F b ∧
      ∀ (i : Nat) row, rows[i]? = some row → row.length = sz ∧ ∀ (j : Nat) x v, row[j]? = some x → C[i * sz + j]? = some v → CRep w F v x
def T1Rep (w : World) (F : Nat → Prop) (base : Nat) (v : Value) : T1 → Prop
  | .c x => CRep w F v x
  | .agg cs => ∃ C, v = .agg C ∧ CReps w F C cs
  | .own e sz rows => OwnRep w F base v e sz rows

/-- A variable of the caller's that the call may write. -/
def VarAt (w : World) (F : Nat → Prop) (p : Nat) (t : TypeId) (cells : List CV) : Prop := ∃ C : Array Value, w.heap[p]? = some (.cells C t (0, 0)) ∧ CReps w F C cells
def RRep (w : World) (F : Nat → Prop) (base : Nat) (v : Value) : RV → Prop
  | .c x => CRep w F v x
  | .own e sz rows => OwnRep w F base v e sz rows
  | .agg cs => ∃ C, v = .agg C ∧ CReps w F C cs
  | .tup xs => ∃ C : Array Value, v = .tuple C ∧ C.size = xs.length ∧ owns xs ≤ 1 ∧ ∀ (i : Nat) x v, xs[i]? = some x → C[i]? = some v → T1Rep w F base v x
  | .obox t cells => ∃ b, v = .pointer (some ⟨b, 0, none⟩) ∧ VarAt w F b t cells ∧ base ≤ b ∧ ¬ F b


def IoIn (w : World) (F : Nat → Prop) (p : Nat) (l : List Value) : Option (TypeId × List CV) → Prop
  | none => l = []
  | some (t, cells) => l = [.pointer (some ⟨p, 0, none⟩)] ∧ VarAt w F p t cells ∧ ¬ F p

def IoOut (w : World) (F : Nat → Prop) (p : Nat) (out : List CV) : Option (TypeId × List CV) → Prop
  | none => True
  | some (t, _) => VarAt w F p t out

def IoOwn (p : Nat) (io : Option (TypeId × List CV)) (b : Nat) : Prop := io.isSome = true ∧ b = p

def noB : Beta := fun _ => none

def Vals (w : World) (F : Nat → Prop) (vs : List Value) (args : List AV) : Prop := vs.length = args.length ∧ ∀ (i : Nat) x v, args[i]? = some x → vs[i]? = some v → ARep w F noB v x

structure PostC (w : World) (S : Nat → Prop) (io : Option (TypeId × List CV)) (p : Nat) (out : List CV) (r : RV) (v : Value) (w' : World) (F' : Nat → Prop) : Prop where
  src : ∀ b, F' b → S b ∨ w.heap.size ≤ b
  lt : ∀ b, F' b → b < w'.heap.size
  res : RRep w' F' w.heap.size v r
  out : IoOut w' F' p out io
  frame : ∀ b, b < w.heap.size → ¬ IoOwn p io b → w'.heap[b]? = w.heap[b]?
  size : w.heap.size ≤ w'.heap.size
  os : w'.os = w.os
  tape : w'.tape = w.tape
  output : w'.output = w.output

def Enters (P : Program) (f : FuncId) : Prop := ∃ fn, P.funcs[f]? = some fn ∧ (fn.name == "runtime.NumGoroutine") = false ∧ fn.body.isSome = true

/-- THE CONTRACT: the call of f with these arguments (the first one a variable that may be written, where 'io' tells one) hands back r; the variable then holds 'out'. -/
def Ret (P : Program) (f : FuncId) (io : Option (TypeId × List CV)) (args : List AV) (out : List CV) (r : RV) : Prop :=
  Enters P f ∧ (∀ x ∈ args, x.lo (fun _ => False)) ∧ ∀ (w : World) (S : Nat → Prop) (p : Nat) (l vs : List Value), (∀ b, S b → b < w.heap.size) → LD w S → IoIn w S p l io → Vals w S vs args →
    Calls P f (l ++ vs).toArray w fun e w' => ∃ v F', e = .returned v ∧ PostC w S io p out r v w' F'

/-- The elements of a slice of the caller's. -/
def ArrAt (w : World) (F : Nat → Prop) (p n : Nat) (e sz : Nat) (rows : List (List CV)) : Prop := ObjOk w F noB p n (.arr e sz rows)
structure PostA (w : World) (S : Nat → Prop) (p n e sz : Nat) (rows' : List (List CV)) (r : RV) (v : Value) (w' : World) (F' : Nat → Prop) : Prop where
  src : ∀ b, F' b → S b ∨ w.heap.size ≤ b
  lt : ∀ b, F' b → b < w'.heap.size
  res : RRep w' F' w.heap.size v r
  out : ArrAt w' F' p n e sz rows'
  frame : ∀ b, b < w.heap.size → b ≠ p → w'.heap[b]? = w.heap[b]?
  size : w.heap.size ≤ w'.heap.size
  os : w'.os = w.os
  tape : w'.tape = w.tape
  output : w'.output = w.output
/-- THE CONTRACT of a call that writes the elements of the slice at its first argument. -/
def RetA (P : Program) (f : FuncId) (e sz : Nat) (rows : List (List CV)) (args : List AV) (rows' : List (List CV)) (r : RV) : Prop :=
  Enters P f ∧ (∀ x ∈ args, x.lo (fun _ => False)) ∧ ∀ (w : World) (S : Nat → Prop) (p n : Nat) (vs : List Value), (∀ b, S b → b < w.heap.size) → LD w S → ArrAt w S p n e sz rows → ¬ S p → Vals w S vs args →
    Calls P f (.slice (some ⟨p, 0, none⟩) rows.length n :: vs).toArray w fun ex w' => ∃ v F', ex = .returned v ∧ PostA w S p n e sz rows' r v w' F'

/-! ### what is handed on: a look at the local objects -/
mutual
def snap1 (s : AState) : Nat → AV → Option CV
  | 0, _ => none
  | k + 1, x => match x with
    | .c y => some y
    | .ref l off => match s.objs l with
      | some (.box _ cells) => match snapL s k (cells.drop off) with | some vs => some (.rp vs) | none => none
      | _ => none
    | .eref l sz i off => match s.objs l with
      | some (.arr _ sz' rows) => if sz = sz' then (match rows[i]? with | some row => some (.rp (row.drop off)) | none => none) else none
      | _ => none
    | .lsl l sz off len => match s.objs l with
      | some (.arr _ sz' rows) => if sz = sz' ∧ off + len ≤ rows.length then some (.sl false false sz ((rows.drop off).take len)) else none
      | _ => none
    | .fn f caps => match snapL s k caps with | some vs => some (.fn f vs) | none => none
    | _ => none
def snapL (s : AState) : Nat → List AV → Option (List CV)
  | 0, _ => none
  | _ + 1, [] => some []
  | k + 1, x :: xs => match snap1 s k x, snapL s k xs with
    | some y, some ys => some (y :: ys)
    | _, _ => none
end

/-- An argument as it is handed on. -/
def snapA (s : AState) : AV → Option AV
  | .agg cs => match snapL s 100 cs with | some vs => some (.agg (vs.map .c)) | none => none
  | x => match snap1 s 100 x with | some y => some (.c y) | none => none

def snapArgs (s : AState) : List AV → Option (List AV)
  | [] => some []
  | x :: xs => match snapA s x, snapArgs s xs with
    | some y, some ys => some (y :: ys)
    | _, _ => none

/-- Is the value told without the local objects? -/
def AV.closed : AV → Bool
  | .c _ => true
  | .agg cs => cs.all fun x => match x with | .c _ => true | _ => false
  | _ => false

section
variable {P : Program} {T : Tab} {E : Entry} {s : AState} {a : Act} {w : World} {F : Nat → Prop} {B : Beta} {U : Nat → Prop}

/-- What may be read once the local objects count too. -/
def withObjs (F : Nat → Prop) (B : Beta) : Nat → Prop := fun b => F b ∨ ∃ l n, B l = some (b, n)

mutual
theorem snap1_sound (h : RelB E s a w F B U) : ∀ (k : Nat) {v : Value} {x : AV} {y : CV}, snap1 s k x = some y → ARep w F B v x → CRep w (withObjs F B) v y
  | 0, _, _, _, he, _ => by simp [snap1] at he
  | k + 1, v, x, y, he, hx => by
    have hW : ∀ b, F b → withObjs F B b := fun b hb => .inl hb
    cases x with
    | c z =>
      simp only [snap1, Option.some.injEq] at he
      subst he
      cases hx with | c hx => exact hx.keep hW (fun _ _ => rfl)
    | ref l off =>
      simp only [snap1] at he
      split at he
      · rename_i t cells ho
        split at he
        · rename_i vs hvs
          cases he
          obtain ⟨b, n, hb, C, hC, hCs, hCr⟩ := obj_B h ho
          cases hx with | ref hx =>
          rw [hx b n hb]
          have hl : C.toList.length = cells.length := by simpa using hCs
          obtain ⟨h1, h2⟩ := snapL_sound h k (vs := C.toList.drop off) hvs (by rw [List.length_drop, List.length_drop, hl]) (fun i x v hx hv => by
            rw [List.getElem?_drop] at hx hv
            exact hCr (off + i) x v hx (by simpa using hv))
          refine .rp (fun j => (C.toList.drop off).getD j undef) (fun j x hx => ⟨.inr ⟨l, n, hb⟩, ?_⟩) (fun j x hx => ?_)
          · have hj : j < (C.toList.drop off).length := by rw [h1]; exact (List.getElem?_eq_some_iff.1 hx).1
            rw [add_plain, cell_blk hC, List.getD_eq_getElem?_getD, List.getElem?_eq_getElem hj, Option.getD_some, List.getElem_drop]
            simp only [List.length_drop, Array.length_toList] at hj
            rw [Array.getElem?_eq_getElem (by omega)]
            simp
          · have hj : j < (C.toList.drop off).length := by rw [h1]; exact (List.getElem?_eq_some_iff.1 hx).1
            refine h2 j x _ hx ?_
            rw [List.getD_eq_getElem?_getD, List.getElem?_eq_getElem hj, Option.getD_some]
        · cases he
      · cases he
    | eref l sz i off =>
      simp only [snap1] at he
      split at he
      · rename_i t sz' rows ho
        split at he
        · rename_i hsz
          subst hsz
          split at he
          · rename_i row hrow
            cases he
            obtain ⟨b, n, hb, C, hC, hCs, hrl, _, hCr⟩ := obj_B h ho
            cases hx with | eref hx =>
            rw [hx b n hb]
            obtain ⟨hrs, hcell⟩ := hCr i row hrow
            have hi : i < rows.length := (List.getElem?_eq_some_iff.1 hrow).1
            have hfit : i * sz + sz ≤ C.size := by
              rw [hCs]
              have : (i + 1) * sz ≤ n * sz := Nat.mul_le_mul_right _ (by omega)
              rw [Nat.add_mul] at this
              omega
            have hget : ∀ j, j < row.length - off → C[i * sz + off + j]? = some (C.getD (i * sz + off + j) undef) := by
              intro j hj
              have : i * sz + off + j < C.size := by omega
              simp [Array.getD_eq_getD_getElem?, Array.getElem?_eq_getElem this]
            refine .rp (fun j => C.getD (i * sz + off + j) undef) (fun j x hx => ⟨.inr ⟨l, n, hb⟩, ?_⟩) (fun j x hx => ?_)
            · have hj : j < row.length - off := by have := (List.getElem?_eq_some_iff.1 hx).1; rwa [List.length_drop] at this
              rw [add_plain, cell_blk hC]
              exact hget j hj
            · have hj : j < row.length - off := by have := (List.getElem?_eq_some_iff.1 hx).1; rwa [List.length_drop] at this
              rw [List.getElem?_drop] at hx
              refine (hcell (off + j) x _ hx ?_).keep hW (fun _ _ => rfl)
              rw [← Nat.add_assoc]
              exact hget j hj
          · cases he
        · cases he
      · cases he
    | lsl l sz off len =>
      simp only [snap1] at he
      split at he
      · rename_i t sz' rows ho
        split at he
        · rename_i hsz
          obtain ⟨hsz, hfit⟩ := hsz
          subst hsz
          cases he
          obtain ⟨b, n, hb, C, hC, hCs, hrl, _, hCr⟩ := obj_B h ho
          cases hx with | lsl hx =>
          obtain ⟨hle, ad, rfl, had⟩ := hx b n hb
          have hlen : ((rows.drop off).take len).length = len := by simp only [List.length_take, List.length_drop]; omega
          have hrow : ∀ i row, ((rows.drop off).take len)[i]? = some row → i < len ∧ rows[off + i]? = some row := by
            intro i row hr
            rw [List.getElem?_take] at hr
            split at hr
            · rw [List.getElem?_drop] at hr
              exact ⟨‹_›, hr⟩
            · cases hr
          have hget : ∀ i j row, rows[off + i]? = some row → j < row.length → C[(off + i) * sz + j]? = some (C.getD ((off + i) * sz + j) undef) := by
            intro i j row hr hj
            have h1 := (hCr _ _ hr).1
            have h2 : off + i < rows.length := (List.getElem?_eq_some_iff.1 hr).1
            have : (off + i + 1) * sz ≤ n * sz := Nat.mul_le_mul_right _ (by omega)
            rw [Nat.add_mul _ 1] at this
            have hlt : (off + i) * sz + j < C.size := by omega
            simp [Array.getD_eq_getD_getElem?, Array.getElem?_eq_getElem hlt]
          refine .sl (fun i j => C.getD ((off + i) * sz + j) undef) hlen.symm (by omega) (by simp) (fun i row hr j x hx => ⟨.inr ⟨l, n, ?_⟩, ?_⟩) (fun i row hr j x hx => ?_)
          · obtain ⟨h1, h2⟩ := hrow i row hr
            rw [had (.inl (by omega))]
            exact hb
          · obtain ⟨h1, h2⟩ := hrow i row hr
            rw [had (.inl (by omega)), add_plain, cell_blk hC, ← Nat.add_assoc, ← Nat.add_mul]
            exact hget i j row h2 (List.getElem?_eq_some_iff.1 hx).1
          · obtain ⟨h1, h2⟩ := hrow i row hr
            exact ((hCr _ _ h2).2 j x _ hx (hget i j row h2 (List.getElem?_eq_some_iff.1 hx).1)).keep hW (fun _ _ => rfl)
        · cases he
      · cases he
    | fn f caps =>
      simp only [snap1] at he
      split at he
      · rename_i vs hvs
        cases he
        cases hx with | @fn _ _ cv h1 h2 =>
        obtain ⟨g1, g2⟩ := snapL_sound h k (vs := cv.toList) hvs (by simpa using h1) (fun i x v hx hv => h2 i x v hx (by simpa using hv))
        exact .fn (by rw [← g1]; simp) (fun i x v hx hv => g2 i x v hx (by simpa using hv))
      · cases he
    | _ => simp [snap1] at he
theorem snapL_sound (h : RelB E s a w F B U) : ∀ (k : Nat) {vs : List Value} {xs : List AV} {ys : List CV}, snapL s k xs = some ys → vs.length = xs.length → (∀ (i : Nat) x v, xs[i]? = some x → vs[i]? = some v → ARep w F B v x) →
    vs.length = ys.length ∧ ∀ (i : Nat) y v, ys[i]? = some y → vs[i]? = some v → CRep w (withObjs F B) v y
  | 0, _, _, _, he, _, _ => by simp [snapL] at he
  | k + 1, [], [], ys, he, _, _ => by
    simp only [snapL, Option.some.injEq] at he
    subst he
    exact ⟨rfl, fun i y v hy => by simp at hy⟩
  | k + 1, v :: vs, x :: xs, ys, he, hl, hr => by
    simp only [snapL] at he
    split at he
    · rename_i y ys' h1 h2
      cases he
      obtain ⟨g1, g2⟩ := snapL_sound h k h2 (by simpa using hl) (fun i x v hx hv => hr (i + 1) x v (by simpa using hx) (by simpa using hv))
      refine ⟨by simp [g1], fun i y' v' hy hv => ?_⟩
      cases i with
      | zero =>
        simp only [List.getElem?_cons_zero, Option.some.injEq] at hy hv
        subst hy hv
        exact snap1_sound h k h1 (hr 0 x v rfl rfl)
      | succ i => exact g2 i y' v' (by simpa using hy) (by simpa using hv)
    · cases he
  | k + 1, [], _ :: _, _, _, hl, _ => by simp at hl
  | k + 1, _ :: _, [], _, _, hl, _ => by simp at hl
end

theorem crep_cells_noB {G : Nat → Prop} {v : Value} {y : CV} (h : CRep w G v y) : ARep w G noB v (.c y) := .c h

theorem snapA_sound (h : RelB E s a w F B U) {v : Value} {x y : AV} (he : snapA s x = some y) (hx : ARep w F B v x) : ARep w (withObjs F B) noB v y := by
  unfold snapA at he
  split at he
  · rename_i cs
    split at he
    · rename_i vs hvs
      cases he
      cases hx with | @agg C _ h1 h2 =>
      obtain ⟨g1, g2⟩ := snapL_sound h 100 (vs := C.toList) hvs (by simpa using h1) (fun i x v hx hv => h2 i x v hx (by simpa using hv))
      refine .agg (by rw [List.length_map, ← g1]; simp) (fun i x v hx hv => ?_)
      simp only [List.getElem?_map, Option.map_eq_some_iff] at hx
      obtain ⟨z, hz, rfl⟩ := hx
      exact .c (g2 i z v hz (by simpa using hv))
    · cases he
  · split at he
    · cases he
      exact .c (snap1_sound h 100 ‹_› hx)
    · cases he

theorem closed_rep {v : Value} {x : AV} (hc : x.closed = true) (hx : ARep w F B v x) : ARep w F noB v x := by
  cases x with
  | c y => cases hx with | c hx => exact .c hx
  | agg cs =>
    cases hx with | agg h1 h2 =>
    refine .agg h1 (fun i x v hx hv => ?_)
    have hcx := List.all_eq_true.1 hc x (List.mem_of_getElem? hx)
    have := h2 i x v hx hv
    cases x <;> simp at hcx
    cases this with | c this => exact .c this
  | _ => simp [AV.closed] at hc

end
end Go.Proofs.Ytnnpjblpiecfdaa.Fw
