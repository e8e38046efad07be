/- The abstract machine: values without memory, and what it means that a Go world holds them. -/
import Derived.Below
import Derived.WalkKit
import Derived.Maps.AppendAt
import Derived.KernelRfl
import Derived.Orders
namespace Go.Proofs.Ytnnpjblpiecfdaa.Fw
open Go.RowKit

inductive CV where
  | v (x : Value)
  | sl (nl full : Bool) (sz : Nat) (rows : List (List CV))
  | rp (cells : List CV)
  | fn (f : FuncId) (caps : List CV)
  deriving Inhabited

inductive AV where
  | junk
  | c (x : CV)
  | agg (cs : List AV)
  | tup (cs : List AV)
  | ref (l off : Nat)
  | eref (l sz i off : Nat)
  | lsl (l sz off len : Nat)
  | fn (f : FuncId) (caps : List AV)
  deriving Inhabited

def atomic : Value → Bool
  | .bool _ | .int _ _ | .float _ _ | .string _ | .pointer none | .nilFunc | .nilIface => true
  | _ => false

/-- In world w, reading blocks of F alone, the value holds the closed datum. -/
inductive CRep (w : World) (F : Nat → Prop) : Value → CV → Prop
  | v {x : Value} : atomic x = true → CRep w F x (.v x)
  | nil {full : Bool} {sz : Nat} : CRep w F (.slice none 0 0) (.sl true full sz [])
  | sl {nl full : Bool} {sz : Nat} {rows : List (List CV)} {a : Addr} {n cap : Nat} (f : Nat → Nat → Value) : n = rows.length → rows.length ≤ cap → (full = true → cap = rows.length) →
      (∀ i row, rows[i]? = some row → ∀ j x, row[j]? = some x → F a.block ∧ w.cell? (a.add (i * sz + j)) = some (f i j)) →
      (∀ i row, rows[i]? = some row → ∀ j x, row[j]? = some x → CRep w F (f i j) x) → CRep w F (.slice (some a) n cap) (.sl nl full sz rows)
  | rp {cells : List CV} {a : Addr} (f : Nat → Value) : (∀ j x, cells[j]? = some x → F a.block ∧ w.cell? (a.add j) = some (f j)) →
      (∀ j x, cells[j]? = some x → CRep w F (f j) x) → CRep w F (.pointer (some a)) (.rp cells)
  | fn {g : FuncId} {caps : List CV} {vs : Array Value} : vs.size = caps.length → (∀ (i : Nat) x v, caps[i]? = some x → vs[i]? = some v → CRep w F v x) →
      CRep w F (.func (.func g) #[] vs) (.fn g caps)

/-- Where the local objects lie: block, and how many elements it has room for. -/
abbrev Beta := Nat → Option (Nat × Nat)

inductive ARep (w : World) (F : Nat → Prop) (B : Beta) : Value → AV → Prop
  | junk {v : Value} : ARep w F B v .junk
  | c {v : Value} {x : CV} : CRep w F v x → ARep w F B v (.c x)
  | agg {cs : Array Value} {xs : List AV} : cs.size = xs.length → (∀ (i : Nat) x v, xs[i]? = some x → cs[i]? = some v → ARep w F B v x) → ARep w F B (.agg cs) (.agg xs)
  | tup {cs : Array Value} {xs : List AV} : cs.size = xs.length → (∀ (i : Nat) x v, xs[i]? = some x → cs[i]? = some v → ARep w F B v x) → ARep w F B (.tuple cs) (.tup xs)
  | ref {v : Value} {l off : Nat} : (∀ b n, B l = some (b, n) → v = .pointer (some ⟨b, off, none⟩)) → ARep w F B v (.ref l off)
  | eref {v : Value} {l sz i off : Nat} : (∀ b n, B l = some (b, n) → v = .pointer (some ⟨b, i * sz + off, none⟩)) → ARep w F B v (.eref l sz i off)
  | lsl {v : Value} {l sz off len : Nat} : (∀ b n, B l = some (b, n) → off + len ≤ n ∧ ∃ a : Addr, v = .slice (some a) len (n - off) ∧ ((off < n ∨ off = 0) → a = ⟨b, off * sz, none⟩)) → ARep w F B v (.lsl l sz off len)
  | fn {g : FuncId} {caps : List AV} {vs : Array Value} : vs.size = caps.length → (∀ (i : Nat) x v, caps[i]? = some x → vs[i]? = some v → ARep w F B v x) →
      ARep w F B (.func (.func g) #[] vs) (.fn g caps)

/-- A local object: a variable, or the array behind a slice. -/
inductive AObj where
  | box (t : TypeId) (cells : List AV)
  | arr (e : TypeId) (sz : Nat) (rows : List (List CV))
  | brr (e : TypeId) (sz : Nat) (rows : List (List AV))

def AObj.isBox : AObj → Bool
  | .box _ _ => true
  | .arr _ _ _ => false
  | .brr _ _ _ => false

def ObjOk (w : World) (F : Nat → Prop) (B : Beta) (b n : Nat) : AObj → Prop
  | .box t cells => ∃ C : Array Value, w.heap[b]? = some (.cells C t (0, 0)) ∧ C.size = cells.length ∧ ∀ (j : Nat) x v, cells[j]? = some x → C[j]? = some v → ARep w F B v x
  | .arr e sz rows => ∃ C : Array Value, w.heap[b]? = some (.cells C e (0, 0)) ∧ C.size = n * sz ∧ rows.length ≤ n ∧ n ≤ maxLen ∧
      ∀ i row, rows[i]? = some row → row.length = sz ∧ ∀ (j : Nat) x v, row[j]? = some x → C[i * sz + j]? = some v → CRep w F v x
  | .brr e sz rows => ∃ C : Array Value, w.heap[b]? = some (.cells C e (0, 0)) ∧ C.size = n * sz ∧ rows.length ≤ n ∧ n ≤ maxLen ∧
      ∀ i row, rows[i]? = some row → row.length = sz ∧ ∀ (j : Nat) x v, row[j]? = some x → C[i * sz + j]? = some v → ARep w F B v x

/-- Every reference is one of U. -/
def AV.lo (U : Nat → Prop) : AV → Prop
  | .junk => True
  | .c _ => True
  | .agg cs => ∀ x ∈ cs, x.lo U
  | .tup cs => ∀ x ∈ cs, x.lo U
  | .ref l _ => U l
  | .eref l _ _ _ => U l
  | .lsl l _ _ _ => U l
  | .fn _ caps => ∀ x ∈ caps, x.lo U

def AObj.lo (U : Nat → Prop) : AObj → Prop
  | .box _ cells => ∀ x ∈ cells, x.lo U
  | .arr _ _ _ => True
  | .brr _ _ rows => ∀ row ∈ rows, ∀ x ∈ row, x.lo U

structure AState where
  tmps : List AV
  objs : Nat → Option AObj
  next : Nat

/-- The tables that lie in the world for good: a block, and what is known of it. -/
def tabs : List (Nat × (Obj → Prop)) := []
def LD (w : World) (S : Nat → Prop) : Prop := ∀ x ∈ tabs, S x.1 ∧ ∃ o, w.heap[x.1]? = some o ∧ x.2 o
/-- The call's beginning: the world, what may be read, which blocks of the caller's may be written. -/
structure Entry where
  w0 : World
  S : Nat → Prop
  own : Nat → Prop
  cap : Nat
  ld : LD w0 S
  ldo : ∀ x ∈ tabs, ¬ own x.1

structure RelB (E : Entry) (s : AState) (a : Act) (w : World) (F : Nat → Prop) (B : Beta) (U : Nat → Prop) : Prop where
  size : a.tmps.size = s.tmps.length
  tmps : ∀ (i : Nat) x v, s.tmps[i]? = some x → a.tmps[i]? = some v → ARep w F B v x
  defers : a.defers = []
  live : ∀ l, (B l = none ↔ s.objs l = none)
  objs : ∀ l b n o, B l = some (b, n) → s.objs l = some o → ObjOk w F B b n o
  inj : ∀ l l' b n n', B l = some (b, n) → B l' = some (b, n') → l = l'
  apart : ∀ l b n, B l = some (b, n) → ¬ F b
  flt : ∀ b, F b → b < w.heap.size
  blt : ∀ l b n, B l = some (b, n) → b < w.heap.size
  fsrc : ∀ b, F b → E.S b ∨ E.own b ∨ E.w0.heap.size ≤ b
  bsrc : ∀ l b n, B l = some (b, n) → E.own b ∨ E.w0.heap.size ≤ b
  frame : ∀ b, b < E.w0.heap.size → ¬ E.own b → w.heap[b]? = E.w0.heap[b]?
  grown : E.w0.heap.size ≤ w.heap.size
  os : w.os = E.w0.os
  tape : w.tape = E.w0.tape
  output : w.output = E.w0.output
  wfT : ∀ x ∈ s.tmps, x.lo U
  wfO : ∀ l o, s.objs l = some o → U l ∧ o.lo U
  anchor : ∀ p, E.own p → U 0 ∧ ∀ b n, B 0 = some (b, n) → b = p ∧ n = E.cap

def Rel (E : Entry) (s : AState) (a : Act) (w : World) : Prop := ∃ F B U, RelB E s a w F B U ∧ ∀ l, U l → l < s.next

/-! ### moving the words along -/

theorem cell?_of_heap {w w' : World} {a : Addr} (h : w'.heap[a.block]? = w.heap[a.block]?) : w'.cell? a = w.cell? a := by
  simp only [World.cell?, h]

theorem block_add (a : Addr) (n : Nat) : (a.add n).block = a.block := by unfold Addr.add; split <;> rfl

theorem CRep.keep {w w' : World} {F F' : Nat → Prop} (hF : ∀ b, F b → F' b) (hw : ∀ b, F b → w'.heap[b]? = w.heap[b]?) {v : Value} {x : CV} (h : CRep w F v x) : CRep w' F' v x := by
  induction h with
  | v h => exact .v h
  | nil => exact .nil
  | sl f h0 h1 h2 h3 _ ih =>
    refine .sl f h0 h1 h2 (fun i row hr j x hx => ?_) ih
    obtain ⟨hb, hc⟩ := h3 i row hr j x hx
    exact ⟨hF _ hb, (cell?_of_heap (by rw [block_add]; exact hw _ hb)).trans hc⟩
  | rp f h3 _ ih =>
    refine .rp f (fun j x hx => ?_) ih
    obtain ⟨hb, hc⟩ := h3 j x hx
    exact ⟨hF _ hb, (cell?_of_heap (by rw [block_add]; exact hw _ hb)).trans hc⟩
  | fn h1 _ ih => exact .fn h1 ih

/-- B' knows all that the value's references need: it may know less than B, and more only of what the value does not name. -/
theorem ARep.keep {w w' : World} {F F' : Nat → Prop} {B B' : Beta} {N : Nat → Prop} (hF : ∀ b, F b → F' b) (hw : ∀ b, F b → w'.heap[b]? = w.heap[b]?) (hB : ∀ l, N l → B' l = B l ∨ B' l = none) {v : Value} {x : AV}
    (h : ARep w F B v x) (hx : x.lo N) : ARep w' F' B' v x := by
  induction h with
  | junk => exact .junk
  | c h => exact .c (h.keep hF hw)
  | agg h1 h2 ih => exact .agg h1 (fun i x v hi hv => ih i x v hi hv (by simp only [AV.lo] at hx; exact hx x (List.mem_of_getElem? hi)))
  | tup h1 h2 ih => exact .tup h1 (fun i x v hi hv => ih i x v hi hv (by simp only [AV.lo] at hx; exact hx x (List.mem_of_getElem? hi)))
  | ref h =>
    simp only [AV.lo] at hx
    refine .ref fun b n hb => ?_
    rcases hB _ hx with e | e
    · exact h b n (e ▸ hb)
    · rw [e] at hb; cases hb
  | eref h =>
    simp only [AV.lo] at hx
    refine .eref fun b n hb => ?_
    rcases hB _ hx with e | e
    · exact h b n (e ▸ hb)
    · rw [e] at hb; cases hb
  | lsl h =>
    simp only [AV.lo] at hx
    refine .lsl fun b n hb => ?_
    rcases hB _ hx with e | e
    · exact h b n (e ▸ hb)
    · rw [e] at hb; cases hb
  | fn h1 h2 ih => exact .fn h1 (fun i x v hi hv => ih i x v hi hv (by simp only [AV.lo] at hx; exact hx x (List.mem_of_getElem? hi)))

theorem ARep.keep' {w w' : World} {F F' : Nat → Prop} {B : Beta} (hF : ∀ b, F b → F' b) (hw : ∀ b, F b → w'.heap[b]? = w.heap[b]?) {v : Value} {x : AV} (h : ARep w F B v x) : ARep w' F' B v x := by
  induction h with
  | junk => exact .junk
  | c h => exact .c (h.keep hF hw)
  | agg h1 _ ih => exact .agg h1 ih
  | tup h1 _ ih => exact .tup h1 ih
  | ref h => exact .ref h
  | eref h => exact .eref h
  | lsl h => exact .lsl h
  | fn h1 _ ih => exact .fn h1 ih

theorem AV.lo_mono {n m : Nat → Prop} (h : ∀ l, n l → m l) : ∀ (x : AV), x.lo n → x.lo m
  | .junk, _ => by simp only [AV.lo]
  | .c _, _ => by simp only [AV.lo]
  | .agg cs, hx => by simp only [AV.lo] at *; exact fun y hy => AV.lo_mono h y (hx y hy)
  | .tup cs, hx => by simp only [AV.lo] at *; exact fun y hy => AV.lo_mono h y (hx y hy)
  | .ref l _, hx => by simp only [AV.lo] at *; exact h _ hx
  | .eref l _ _ _, hx => by simp only [AV.lo] at *; exact h _ hx
  | .lsl l _ _ _, hx => by simp only [AV.lo] at *; exact h _ hx
  | .fn _ caps, hx => by simp only [AV.lo] at *; exact fun y hy => AV.lo_mono h y (hx y hy)

theorem AObj.lo_mono {n m : Nat → Prop} (h : ∀ l, n l → m l) {o : AObj} (ho : o.lo n) : o.lo m := by
  cases o with
  | box t cells => exact fun x hx => AV.lo_mono h x (ho x hx)
  | arr e sz rows => trivial
  | brr e sz rows => exact fun row hr x hx => AV.lo_mono h x (ho row hr x hx)

theorem ObjOk.keep {w w' : World} {F F' : Nat → Prop} {B B' : Beta} {N : Nat → Prop} {b n : Nat} {o : AObj} (hF : ∀ b, F b → F' b) (hw : ∀ b, F b → w'.heap[b]? = w.heap[b]?) (hB : ∀ l, N l → B' l = B l ∨ B' l = none)
    (hb : w'.heap[b]? = w.heap[b]?) (h : ObjOk w F B b n o) (ho : o.lo N) : ObjOk w' F' B' b n o := by
  cases o with
  | box t cells =>
    obtain ⟨C, h1, h2, h3⟩ := h
    exact ⟨C, hb.trans h1, h2, fun j x v hx hv => (h3 j x v hx hv).keep hF hw hB (ho x (List.mem_of_getElem? hx))⟩
  | arr e sz rows =>
    obtain ⟨C, h1, h2, h3, h3', h4⟩ := h
    exact ⟨C, hb.trans h1, h2, h3, h3', fun i row hr => ⟨(h4 i row hr).1, fun j x v hx hv => ((h4 i row hr).2 j x v hx hv).keep hF hw⟩⟩
  | brr e sz rows =>
    obtain ⟨C, h1, h2, h3, h3', h4⟩ := h
    exact ⟨C, hb.trans h1, h2, h3, h3', fun i row hr => ⟨(h4 i row hr).1, fun j x v hx hv => ((h4 i row hr).2 j x v hx hv).keep hF hw hB (ho row (List.mem_of_getElem? hr) x (List.mem_of_getElem? hx))⟩⟩

end Go.Proofs.Ytnnpjblpiecfdaa.Fw
