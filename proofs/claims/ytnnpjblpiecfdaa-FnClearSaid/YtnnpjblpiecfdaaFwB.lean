/- The abstract machine's operations that leave memory as it is, and that they tell what Go does. -/
import Derived.Test.YtnnpjblpiecfdaaFwA
namespace Go.Proofs.Ytnnpjblpiecfdaa.Fw
open Go.RowKit

inductive TD where
  | bool | string | func | iface | other
  | int (k : IntKind)
  | slice (e : TypeId)
  | ptr (e : TypeId)
  | struct (fs : List (TypeId × Nat))
  | array (n : Nat) (e : TypeId)

structure TI where
  d : TD
  size : Nat
  bytes : Nat
  zero : List CV

abbrev Tab := List (Nat × TI)

def TD.fits : TD → TypeDesc → Bool
  | .bool, .bool => true
  | .string, .string => true
  | .func, .func _ _ _ => true
  | .iface, .interface _ => true
  | .int k, .int k' => k == k'
  | .slice e, .slice e' => e == e'
  | .ptr e, .pointer e' => e == e'
  | .struct fs, .struct fields => fields.toList.map (fun f => (f.type, f.offset)) == fs
  | .array n e, .array n' e' => n == n' && e == e'
  | .other, .bool => false
  | .other, .string => false
  | .other, .func _ _ _ => false
  | .other, .interface _ => false
  | .other, .int _ => false
  | .other, .slice _ => false
  | .other, .pointer _ => false
  | .other, .struct _ => false
  | .other, .array _ _ => false
  | .other, _ => true
  | _, _ => false

def TD.isAgg : TD → Bool
  | .struct _ | .array _ _ => true
  | _ => false

/-- A zero value's cell. -/
def isZero : Value → CV → Bool
  | .bool b, .v (.bool c) => b == c
  | .int k n, .v (.int j m) => k == j && n == m
  | .string s, .v (.string t) => s.data.toList.isEmpty && t.data.toList.isEmpty
  | .pointer none, .v (.pointer none) => true
  | .nilFunc, .v .nilFunc => true
  | .nilIface, .v .nilIface => true
  | .slice none 0 0, .sl true true _ [] => true
  | _, _ => false

def areZero : List Value → List CV → Bool
  | [], [] => true
  | v :: vs, x :: xs => isZero v x && areZero vs xs
  | _, _ => false

def Tab.okAt (P : Program) (t : Nat) (i : TI) : Bool :=
  match P.underlying t, P.info? t with
  | some d, some info => i.d.fits d && info.size == i.size && info.bytes == i.bytes && i.zero.length == i.size &&
      (match info.zero with | some z => areZero z.cells.toList i.zero | none => false)
  | _, _ => false

def Tab.get : Tab → TypeId → Option TI
  | [], _ => none
  | (u, i) :: T, t => if u = t then some i else Tab.get T t

/-- A type whose values are compared by their cells. -/
def eqTy (T : Tab) : Nat → TypeId → Bool
  | 0, _ => false
  | n + 1, t => match T.get t with
    | some ⟨.int _, _, _, _⟩ => true
    | some ⟨.bool, _, _, _⟩ => true
    | some ⟨.string, _, _, _⟩ => true
    | some ⟨.struct fs, _, _, _⟩ => fs.all fun f => eqTy T n f.1
    | some ⟨.array _ e, _, _, _⟩ => eqTy T n e
    | _ => false

def eqOk (P : Program) (t : TypeId) : Bool := match P.underlying t with
  | some (.struct fs) => fs.all (fun f => f.name != "_") && !P.stoodInHeld t && !P.eqGuardType P.depth t
  | some (.array _ _) => !P.eqGuardType P.depth t
  | _ => false

def Tab.okAll (P : Program) (T : Tab) : Bool := T.all fun x => Tab.okAt P x.1 x.2

def Tab.ok (P : Program) (T : Tab) : Bool := Tab.okAll P T && T.all fun x => match x.2.d with
  | .struct _ => !eqTy T 10 x.1 || eqOk P x.1
  | .array _ _ => !eqTy T 10 x.1 || eqOk P x.1
  | _ => true

def Tab.desc (T : Tab) (t : TypeId) : Option TD := match T.get t with | some i => some i.d | none => none

structure TabAt (P : Program) (t : TypeId) (i : TI) : Prop where
  desc : ∃ d, P.underlying t = some d ∧ i.d.fits d = true
  info : ∃ info z, P.info? t = some info ∧ info.size = i.size ∧ info.bytes = i.bytes ∧ info.zero = some z ∧ areZero z.cells.toList i.zero = true
  zlen : i.zero.length = i.size

theorem Tab.okAt_spec {P : Program} {t : Nat} {i : TI} (h : Tab.okAt P t i = true) : TabAt P t i := by
  unfold Tab.okAt at h
  split at h
  · rename_i d info hd hi
    simp only [Bool.and_eq_true, beq_iff_eq] at h
    obtain ⟨⟨⟨⟨h1, h2⟩, h3⟩, h3'⟩, h4⟩ := h
    split at h4
    · rename_i z hz
      exact ⟨⟨d, hd, h1⟩, ⟨info, z, hi, h2, h3, hz, h4⟩, h3'⟩
    · cases h4
  · cases h

theorem Tab.getAll_spec {P : Program} : ∀ {T : Tab}, Tab.okAll P T = true → ∀ {t : TypeId} {i : TI}, T.get t = some i → TabAt P t i
  | [], _, t, i, h => by simp [Tab.get] at h
  | (u, j) :: T, hT, t, i, h => by
    simp only [Tab.okAll, List.all_cons, Bool.and_eq_true] at hT
    simp only [Tab.get] at h
    split at h
    · rename_i e
      subst e
      cases h
      exact Tab.okAt_spec hT.1
    · exact Tab.getAll_spec (T := T) (by simpa [Tab.okAll] using hT.2) h

theorem Tab.get_mem : ∀ {T : Tab} {t : TypeId} {i : TI}, T.get t = some i → (t, i) ∈ T
  | [], t, i, h => by simp [Tab.get] at h
  | (u, j) :: T, t, i, h => by
    simp only [Tab.get] at h
    split at h
    · rename_i e
      subst e
      cases h
      simp
    · exact List.mem_cons_of_mem _ (Tab.get_mem h)

theorem Tab.get_spec {P : Program} {T : Tab} (hT : Tab.ok P T = true) {t : TypeId} {i : TI} (h : T.get t = some i) : TabAt P t i := by
  simp only [Tab.ok, Bool.and_eq_true] at hT
  exact Tab.getAll_spec hT.1 h

theorem Tab.eq_spec {P : Program} {T : Tab} (hT : Tab.ok P T = true) {t : TypeId} {fs : List (TypeId × Nat)} {n b : Nat} {z : List CV} (h : T.get t = some ⟨.struct fs, n, b, z⟩) (he : eqTy T 10 t = true) : eqOk P t = true := by
  simp only [Tab.ok, Bool.and_eq_true] at hT
  have := List.all_eq_true.1 hT.2 _ (Tab.get_mem h)
  simpa [he] using this

theorem Tab.eq_specA {P : Program} {T : Tab} (hT : Tab.ok P T = true) {t e : TypeId} {k : Nat} {n b : Nat} {z : List CV} (h : T.get t = some ⟨.array k e, n, b, z⟩) (he : eqTy T 10 t = true) : eqOk P t = true := by
  simp only [Tab.ok, Bool.and_eq_true] at hT
  have := List.all_eq_true.1 hT.2 _ (Tab.get_mem h)
  simpa [he] using this

def ofConst : Value → AV
  | .bool b => .c (.v (.bool b))
  | .int k n => .c (.v (.int k n))
  | .float k n => .c (.v (.float k n))
  | .string s => .c (.v (.string s))
  | .pointer none => .c (.v (.pointer none))
  | .nilFunc => .c (.v .nilFunc)
  | .nilIface => .c (.v .nilIface)
  | .slice none 0 0 => .c (.sl true true 0 [])
  | _ => .junk

def AState.eval (s : AState) : Operand → AV
  | .tmp t => s.tmps.getD t .junk
  | .const v => ofConst v
  | .global _ => .junk
  | .func f => .fn f []

def AState.alive (s : AState) (l : Nat) : Bool := (s.objs l).isSome

/-- The cells of a value that can be written into memory. -/
def cellsOf (s : AState) : AV → Option (List AV)
  | .agg cs => some cs
  | .c x => some [.c x]
  | .ref l off => if s.alive l then some [.ref l off] else none
  | .eref l sz i off => if s.alive l then some [.eref l sz i off] else none
  | .lsl l sz off len => if s.alive l then some [.lsl l sz off len] else none
  | .fn f caps => some [.fn f caps]
  | .junk => none
  | .tup _ => none

def exactly (n : Nat) (l : List AV) : Option (List AV) := if l.length = n then some l else none

def readAt (s : AState) (n : Nat) : AV → Option (List AV)
  | .ref l off => match s.objs l with
    | some (.box _ cells) => exactly n ((cells.drop off).take n)
    | _ => none
  | .eref l sz i off => match s.objs l with
    | some (.arr _ sz' rows) => if sz = sz' then (match rows[i]? with | some row => exactly n (((row.drop off).take n).map .c) | none => none) else none
    | some (.brr _ sz' rows) => if sz = sz' then (match rows[i]? with | some row => exactly n ((row.drop off).take n) | none => none) else none
    | _ => none
  | .c (.rp cells) => exactly n ((cells.take n).map .c)
  | _ => none

def intBin (op : BinOp) (k : IntKind) (a b : Int) : Option Value :=
  match op with
  | .add => some (.int k (k.wrap (a + b)))
  | .sub => some (.int k (k.wrap (a - b)))
  | .mul => some (.int k (k.wrap (a * b)))
  | .quo => if b = 0 then none else some (.int k (k.wrap (a.tdiv b)))
  | .rem => if b = 0 then none else some (.int k (a.tmod b))
  | .and => some (.int k (k.wrap (BitVec.ofInt k.bits a &&& BitVec.ofInt k.bits b).toNat))
  | .or => some (.int k (k.wrap (BitVec.ofInt k.bits a ||| BitVec.ofInt k.bits b).toNat))
  | .xor => some (.int k (k.wrap (BitVec.ofInt k.bits a ^^^ BitVec.ofInt k.bits b).toNat))
  | .andNot => some (.int k (k.wrap (BitVec.ofInt k.bits a &&& ~~~ BitVec.ofInt k.bits b).toNat))
  | .eql => some (.bool (a == b))
  | .neq => some (.bool (a != b))
  | .lss => some (.bool (decide (a < b)))
  | .leq => some (.bool (decide (a ≤ b)))
  | .gtr => some (.bool (decide (b < a)))
  | .geq => some (.bool (decide (b ≤ a)))
  | _ => none

def strBin (op : BinOp) (a b : ByteArray) : Option Value :=
  match op with
  | .add => if ((a.size + b.size : Nat) : Int) > 9223372036854775807 then none else some (.string (a ++ b))
  | .eql => some (.bool (a.toList == b.toList))
  | .neq => some (.bool (!(a.toList == b.toList)))
  | .lss => some (.bool (Op.bytesLess a.toList b.toList))
  | .leq => some (.bool (Op.bytesLess a.toList b.toList || a.toList == b.toList))
  | .gtr => some (.bool (!(Op.bytesLess a.toList b.toList || a.toList == b.toList)))
  | .geq => some (.bool (!(Op.bytesLess a.toList b.toList)))
  | _ => none

def apart (T : Tab) (t : TypeId) (cs : List AV) (off : Nat) : Option AV :=
  match T.get t with
  | some i => if i.d.isAgg then (if off + i.size ≤ cs.length then some (.agg ((cs.drop off).take i.size)) else none) else cs[off]?
  | none => none

def aeqFs (f : TypeId → AV → AV → Option Bool) (T : Tab) (xs ys : List AV) : List (TypeId × Nat) → Option Bool
  | [] => some true
  | (t, off) :: fs => match apart T t xs off, apart T t ys off with
    | some x, some y => match f t x y, aeqFs f T xs ys fs with
      | some b, some c => some (b && c)
      | _, _ => none
    | _, _ => none

/-- An array's places. -/
def itemsOf (T : Tab) (len : Nat) (e : TypeId) : List (TypeId × Nat) := match T.get e with
  | some j => (List.range len).map fun i => (e, i * j.size)
  | none => [(e, 0)]

def aeqIn (T : Tab) : Nat → TypeId → AV → AV → Option Bool
  | 0, _, _, _ => none
  | n + 1, t, x, y => match T.get t with
    | some ⟨.int _, _, _, _⟩ => (match x, y with
      | .c (.v (.int k a)), .c (.v (.int k' b)) => if k = k' then some (decide (a = b)) else none
      | _, _ => none)
    | some ⟨.bool, _, _, _⟩ => (match x, y with
      | .c (.v (.bool a)), .c (.v (.bool b)) => some (a == b)
      | _, _ => none)
    | some ⟨.string, _, _, _⟩ => (match x, y with
      | .c (.v (.string a)), .c (.v (.string b)) => some (a.toList == b.toList)
      | _, _ => none)
    | some ⟨.struct fs, _, _, _⟩ => (match x, y with
      | .agg xs, .agg ys => if eqTy T 10 t then aeqFs (aeqIn T n) T xs ys fs else none
      | _, _ => none)
    | some ⟨.array len e, _, _, _⟩ => (match x, y with
      | .agg xs, .agg ys => if eqTy T 10 t then aeqFs (aeqIn T n) T xs ys (itemsOf T len e) else none
      | _, _ => none)
    | _ => none

def abin (T : Tab) (s : AState) (op : BinOp) (t : TypeId) (x y : AV) : Option AV :=
  match x, y with
  | .c (.v (.int k a)), .c (.v (.int j b)) => match op with
    | .shl => if b < 0 then none else some (.c (.v (.int k (k.wrap (a * 2 ^ (min b.toNat k.bits))))))
    | .shr => if b < 0 then none else some (.c (.v (.int k (a.fdiv (2 ^ (min b.toNat k.bits))))))
    | op => if k = j then (intBin op k a b).map fun v => .c (.v v) else none
  | .c (.v (.string a)), .c (.v (.string b)) => (strBin op a b).map fun v => .c (.v v)
  | .c (.v (.bool a)), .c (.v (.bool b)) => match T.desc t, op with
    | some .bool, .eql => some (.c (.v (.bool (a == b))))
    | some .bool, .neq => some (.c (.v (.bool (!(a == b)))))
    | _, _ => none
  | .agg xs, .agg ys => match aeqIn T 10 t (.agg xs) (.agg ys) with
    | some b => match op with
      | .eql => some (.c (.v (.bool b)))
      | .neq => some (.c (.v (.bool (!b))))
      | _ => none
    | none => none
  | _, _ => none

def aun (op : UnOp) : AV → Option AV
  | .c (.v (.int k n)) => match op with
    | .neg => some (.c (.v (.int k (k.wrap (0 - n)))))
    | .xor => some (.c (.v (.int k (k.wrap (BitVec.ofInt k.bits (if k.signed then -1 else k.max) ^^^ BitVec.ofInt k.bits n).toNat))))
    | _ => none
  | .c (.v (.bool b)) => match op with
    | .not => some (.c (.v (.bool (!b))))
    | _ => none
  | _ => none

/-- The bytes of rows of one byte each. -/
def bytesL : List (List CV) → Option (List UInt8)
  | [] => some []
  | [.v (.int .u8 n)] :: rs => match bytesL rs with
    | some l => some (UInt8.ofNat n.toNat :: l)
    | none => none
  | _ => none

def aconv (T : Tab) (src dst : TypeId) : AV → Option AV
  | .c (.sl _ _ 1 rows) => match T.desc src, T.desc dst with
    | some (.slice e), some .string => match T.desc e with
      | some (.int .u8) => match bytesL rows with
        | some l => some (.c (.v (.string ⟨l.toArray⟩)))
        | none => none
      | _ => none
    | _, _ => none
  | .c (.v (.int _ n)) => match T.desc src, T.desc dst with
    | some (.int _), some (.int k) => some (.c (.v (.int k (k.wrap n))))
    | _, _ => none
  | .c (.v (.string s)) => match T.desc src, T.desc dst with
    | some .string, some .string => some (.c (.v (.string s)))
    | _, _ => none
  | _ => none

def afieldAddr (T : Tab) (s : AState) (t : TypeId) (f : Nat) (x : AV) : Option AV :=
  match T.get t with
  | some i => match i.d with
    | .struct fs => match fs[f]? with
      | some (ft, off) => match T.get ft with
        | some j => if j.size = 0 then none else match x with
          | .ref l o => if s.alive l then some (.ref l (o + off)) else none
          | .eref l sz k o => if s.alive l then some (.eref l sz k (o + off)) else none
          | .c (.rp cells) => some (.c (.rp (cells.drop off)))
          | _ => none
        | none => none
      | none => none
    | _ => none
  | none => none

def aindexAddr (T : Tab) (s : AState) (t : TypeId) (x i : AV) : Option AV :=
  match i with
  | .c (.v (.int _ i)) => match T.desc t with
    | some (.slice e) => match T.get e with
      | some j => match x with
        | .c (.sl _ _ sz rows) => if sz = j.size then (if 0 ≤ i then (match rows[i.toNat]? with | some row => some (.c (.rp row)) | none => none) else none) else none
        | .lsl l sz off len => if sz = j.size then (if s.alive l then (if 0 ≤ i ∧ i < len then some (.eref l sz (off + i.toNat) 0) else none) else none) else none
        | _ => none
      | none => none
    | some (.array n e) => match T.get e with
      | some j => if 0 ≤ i ∧ i < n then match x with
        | .ref l o => if s.alive l then some (.ref l (o + i.toNat * j.size)) else none
        | .eref l sz k o => if s.alive l then some (.eref l sz k (o + i.toNat * j.size)) else none
        | .c (.rp cells) => some (.c (.rp (cells.drop (i.toNat * j.size))))
        | _ => none
        else none
      | none => none
    | _ => none
  | _ => none

def aindex (T : Tab) (t : TypeId) (x i : AV) : Option AV :=
  match i with
  | .c (.v (.int _ i)) => match T.desc t, x with
    | some .string, .c (.v (.string s)) => if 0 ≤ i then (match s[i.toNat]? with | some b => some (.c (.v (.int .u8 b.toNat))) | none => none) else none
    | some (.array n e), .agg cs => if 0 ≤ i ∧ i < n then (match T.get e with | some j => apart T e cs (i.toNat * j.size) | none => none) else none
    | _, _ => none
  | _ => none

def bound? (n : Nat) (d : Nat) : Option AV → Option Nat
  | none => some d
  | some (.c (.v (.int _ i))) => if 0 ≤ i ∧ i ≤ n then some i.toNat else none
  | some _ => none

def aslice (T : Tab) (s : AState) (t : TypeId) (x : AV) (lo hi mx : Option AV) : Option AV :=
  match mx with
  | some _ => none
  | none => match T.desc t, x with
    | some .string, .c (.v (.string b)) => match bound? b.size b.size hi with
      | some h => match bound? h 0 lo with
        | some l => some (.c (.v (.string (b.extract l h))))
        | none => none
      | none => none
    | some (.slice e), .c (.sl nl _ sz rows) => match T.get e with
      | some j => if sz = j.size then match bound? rows.length rows.length hi with
        | some h => match bound? h 0 lo with
          | some l => some (.c (.sl nl false sz ((rows.take h).drop l)))
          | none => none
        | none => none
        else none
      | none => none
    | some (.slice e), .lsl l sz off len => match T.get e with
      | some j => if sz = j.size then (if s.alive l then match bound? len len hi with
        | some h => match bound? h 0 lo with
          | some k => some (.lsl l sz (off + k) (h - k))
          | none => none
        | none => none
        else none) else none
      | none => none
    | _, _ => none

def alen (T : Tab) (s : AState) (t : TypeId) : AV → Option AV
  | .c (.v (.string b)) => match T.desc t with
    | some .string => some (.c (.v (.int .i64 b.size)))
    | _ => none
  | .c (.sl _ _ _ rows) => match T.desc t with
    | some (.slice _) => some (.c (.v (.int .i64 rows.length)))
    | _ => none
  | .lsl l _ _ len => if s.alive l then match T.desc t with
    | some (.slice _) => some (.c (.v (.int .i64 len)))
    | _ => none else none
  | _ => none

def amax2 : AV → AV → Option AV
  | .c (.v (.int k x)), .c (.v (.int _ y)) => some (.c (.v (.int k (if y > x then y else x))))
  | _, _ => none

def amin2 : AV → AV → Option AV
  | .c (.v (.int k x)), .c (.v (.int _ y)) => some (.c (.v (.int k (if y < x then y else x))))
  | _, _ => none

def afold (f : AV → AV → Option AV) : AV → List AV → Option AV
  | x, [] => some x
  | x, y :: ys => match f x y with | some z => afold f z ys | none => none

def anil (s : AState) : AV → Option AV
  | .ref l o => if s.alive l then some (.ref l o) else none
  | .eref l sz i o => if s.alive l then some (.eref l sz i o) else none
  | .c (.rp cells) => some (.c (.rp cells))
  | .fn f caps => some (.fn f caps)
  | .c (.fn f caps) => some (.c (.fn f caps))
  | _ => none

def abuiltin (T : Tab) (s : AState) (b : Builtin) (ts : List TypeId) (xs : List AV) : Option AV :=
  match b with
  | .len => match ts, xs with
    | [t], [x] => alen T s t x
    | _, _ => none
  | .max => match xs with
    | x :: rest => afold amax2 x rest
    | [] => none
  | .min => match xs with
    | x :: rest => afold amin2 x rest
    | [] => none
  | _ => none

/-- A slice as a pointer to an array. -/
def aarrP (T : Tab) (t : TypeId) : AV → Option AV
  | .c (.sl _ _ 1 rows) => match T.desc t with
    | some (.array n _) => if (rows.all fun r => r.length == 1) = true ∧ 0 < n ∧ n ≤ rows.length then some (.c (.rp ((List.range n).map fun j => (rows.getD j []).getD 0 default))) else none
    | _ => none
  | _ => none
/-- The operations that leave memory as it is. -/
def apure (T : Tab) (s : AState) : Op → Option AV
  | .move x => some (s.eval x)
  | .assign x => some (s.eval x)
  | .pick c a b => match s.eval c with
    | .c (.v (.bool t)) => some (if t then s.eval a else s.eval b)
    | _ => none
  | .load t p => match T.get t with
    | some i => match readAt s i.size (s.eval p) with
      | some cs => if i.d.isAgg then some (.agg cs) else (match cs with | [x] => some x | _ => none)
      | none => none
    | none => none
  | .nilCheck x => anil s (s.eval x)
  | .binOp op t x y _ => abin T s op t (s.eval x) (s.eval y)
  | .unOp op _ x => aun op (s.eval x)
  | .convert src dst x => aconv T src dst (s.eval x)
  | .slice t x lo hi mx => aslice T s t (s.eval x) (lo.map s.eval) (hi.map s.eval) (mx.map s.eval)
  | .fieldAddr t x f => afieldAddr T s t f (s.eval x)
  | .field t x f => match T.get t with
    | some i => match i.d with
      | .struct fs => match fs[f]?, s.eval x with
        | some (ft, off), .agg cs => apart T ft cs off
        | _, _ => none
      | _ => none
    | none => none
  | .indexAddr t x i => aindexAddr T s t (s.eval x) (s.eval i)
  | .index t x i => aindex T t (s.eval x) (s.eval i)
  | .extract x i => match s.eval x with
    | .tup cs => cs[i]?
    | _ => none
  | .makeFunc fn first caps => match fn, first.toList with
    | .func f, [] => some (.fn f (caps.toList.map s.eval))
    | _, _ => none
  | .call c => match c.callee with
    | .builtin b => abuiltin T s b c.argTypes.toList (c.args.toList.map s.eval)
    | _ => none
  | .sliceToArrayPointer t x => aarrP T t (s.eval x)
  | _ => none

end Go.Proofs.Ytnnpjblpiecfdaa.Fw
