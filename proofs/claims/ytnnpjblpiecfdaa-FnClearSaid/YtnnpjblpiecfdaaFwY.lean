/- The reckoning set, and what closes a walk. -/
import Derived.Test.YtnnpjblpiecfdaaFwXc
namespace Go.Proofs.Ytnnpjblpiecfdaa.Fw
open Go.RowKit
set_option linter.unusedVariables false
set_option linter.unusedSimpArgs false

abbrev iv (n : Int) : AV := .c (.v (.int .i64 n))
abbrev bv (b : Bool) : AV := .c (.v (.bool b))
abbrev sv (b : ByteArray) : AV := .c (.v (.string b))
abbrev ic (n : Int) : CV := .v (.int .i64 n)
abbrev bc (b : Bool) : CV := .v (.bool b)
abbrev sc (b : ByteArray) : CV := .v (.string b)

theorem bytes_ext {a b : ByteArray} (h : a.toList = b.toList) : a = b := by
  rw [ByteArray.toList_eq, ByteArray.toList_eq] at h
  cases a; cases b
  simp only at h
  congr 1
  exact Array.ext' h

section
variable {q : Bool} {P : Program} {T : Tab} {E : Entry} {ops : Array Oper} {rest : List Oper} {dst : Option Tmp} {s : AState} {K : AState → Prop} {Q : APost}

theorem abin_int (op : BinOp) (t : TypeId) (k : IntKind) (a b : Int) (h1 : op ≠ .shl) (h2 : op ≠ .shr) : abin T s op t (.c (.v (.int k a))) (.c (.v (.int k b))) = (intBin op k a b).map fun v => .c (.v v) := by
  cases op <;> simp_all [abin]
theorem abin_add (t : TypeId) (k : IntKind) (a b : Int) : abin T s .add t (.c (.v (.int k a))) (.c (.v (.int k b))) = some (.c (.v (.int k (k.wrap (a + b))))) := by simp [abin, intBin]
theorem abin_sub (t : TypeId) (k : IntKind) (a b : Int) : abin T s .sub t (.c (.v (.int k a))) (.c (.v (.int k b))) = some (.c (.v (.int k (k.wrap (a - b))))) := by simp [abin, intBin]
theorem abin_mul (t : TypeId) (k : IntKind) (a b : Int) : abin T s .mul t (.c (.v (.int k a))) (.c (.v (.int k b))) = some (.c (.v (.int k (k.wrap (a * b))))) := by simp [abin, intBin]
theorem abin_eql (t : TypeId) (k : IntKind) (a b : Int) : abin T s .eql t (.c (.v (.int k a))) (.c (.v (.int k b))) = some (.c (.v (.bool (decide (a = b))))) := by
  have : (a == b) = decide (a = b) := by by_cases h : a = b <;> simp [h]
  simp [abin, intBin, this]
theorem abin_neq (t : TypeId) (k : IntKind) (a b : Int) : abin T s .neq t (.c (.v (.int k a))) (.c (.v (.int k b))) = some (.c (.v (.bool (decide (a ≠ b))))) := by
  have : (a != b) = decide (a ≠ b) := by by_cases h : a = b <;> simp [h]
  simp [abin, intBin, this]
theorem abin_lss (t : TypeId) (k : IntKind) (a b : Int) : abin T s .lss t (.c (.v (.int k a))) (.c (.v (.int k b))) = some (.c (.v (.bool (decide (a < b))))) := by simp [abin, intBin]
theorem abin_leq (t : TypeId) (k : IntKind) (a b : Int) : abin T s .leq t (.c (.v (.int k a))) (.c (.v (.int k b))) = some (.c (.v (.bool (decide (a ≤ b))))) := by simp [abin, intBin]
theorem abin_gtr (t : TypeId) (k : IntKind) (a b : Int) : abin T s .gtr t (.c (.v (.int k a))) (.c (.v (.int k b))) = some (.c (.v (.bool (decide (b < a))))) := by simp [abin, intBin]
theorem abin_geq (t : TypeId) (k : IntKind) (a b : Int) : abin T s .geq t (.c (.v (.int k a))) (.c (.v (.int k b))) = some (.c (.v (.bool (decide (b ≤ a))))) := by simp [abin, intBin]
theorem abin_quo (t : TypeId) (k : IntKind) (a b : Int) : abin T s .quo t (.c (.v (.int k a))) (.c (.v (.int k b))) = if b = 0 then none else some (.c (.v (.int k (k.wrap (a.tdiv b))))) := by
  simp only [abin, intBin, if_true]; split <;> rfl
theorem abin_rem (t : TypeId) (k : IntKind) (a b : Int) : abin T s .rem t (.c (.v (.int k a))) (.c (.v (.int k b))) = if b = 0 then none else some (.c (.v (.int k (a.tmod b)))) := by
  simp only [abin, intBin, if_true]; split <;> rfl
theorem abin_seq (t : TypeId) (a b : ByteArray) : abin T s .eql t (.c (.v (.string a))) (.c (.v (.string b))) = some (.c (.v (.bool (decide (a = b))))) := by
  have : (a.toList == b.toList) = decide (a = b) := by
    by_cases h : a = b
    · simp [h]
    · have h2 : a.toList ≠ b.toList := fun e => h (bytes_ext e)
      simp [h, h2]
  simp [abin, strBin, this]
theorem abin_sne (t : TypeId) (a b : ByteArray) : abin T s .neq t (.c (.v (.string a))) (.c (.v (.string b))) = some (.c (.v (.bool (decide (a ≠ b))))) := by
  have : (a.toList == b.toList) = decide (a = b) := by
    by_cases h : a = b
    · simp [h]
    · have h2 : a.toList ≠ b.toList := fun e => h (bytes_ext e)
      simp [h, h2]
  simp [abin, strBin, this]

/-! memory -/
def rdBox (n off : Nat) : Option AObj → Option (List AV)
  | some (.box _ cells) => exactly n ((cells.drop off).take n)
  | _ => none
def rdArr (n sz i off : Nat) : Option AObj → Option (List AV)
  | some (.arr _ sz' rows) => if sz = sz' then (match rows[i]? with | some row => exactly n (((row.drop off).take n).map .c) | none => none) else none
  | some (.brr _ sz' rows) => if sz = sz' then (match rows[i]? with | some row => exactly n ((row.drop off).take n) | none => none) else none
  | _ => none
theorem readAt_ref (t : List AV) (ob : Nat → Option AObj) (nx n l off : Nat) : readAt ⟨t, ob, nx⟩ n (.ref l off) = rdBox n off (ob l) := by
  simp only [readAt]; unfold rdBox; rfl
theorem readAt_eref (t : List AV) (ob : Nat → Option AObj) (nx n l sz i off : Nat) : readAt ⟨t, ob, nx⟩ n (.eref l sz i off) = rdArr n sz i off (ob l) := by
  simp only [readAt]; unfold rdArr; rfl
theorem readAt_rp (n : Nat) (cells : List CV) : readAt s n (.c (.rp cells)) = exactly n ((cells.take n).map .c) := _root_.id rfl
theorem alive_mk (t : List AV) (ob : Nat → Option AObj) (nx l : Nat) : AState.alive ⟨t, ob, nx⟩ l = (ob l).isSome := _root_.id rfl
def wrBox (cs : List AV) (l off : Nat) : Option AObj → Option (Nat × AObj)
  | some (.box t cells) => if off + cs.length ≤ cells.length then some (l, .box t (splice cells off cs)) else none
  | _ => none
def wrArr (cs : List AV) (l sz i off : Nat) : Option AObj → Option (Nat × AObj)
  | some (.arr e sz' rows) => if sz = sz' then (match rows[i]? with
      | some row => if off + cs.length ≤ sz then (match toCVs cs with
        | some vs => some (l, .arr e sz (rows.set i (row.take off ++ (vs ++ row.drop (off + vs.length)))))
        | none => none) else none
      | none => none) else none
  | some (.brr e sz' rows) => if sz = sz' then (match rows[i]? with
      | some row => if off + cs.length ≤ sz then some (l, .brr e sz (rows.set i (row.take off ++ (cs ++ row.drop (off + cs.length))))) else none
      | none => none) else none
  | _ => none
theorem writeAt_ref (t : List AV) (ob : Nat → Option AObj) (nx l off : Nat) (cs : List AV) : writeAt ⟨t, ob, nx⟩ cs (.ref l off) = wrBox cs l off (ob l) := by
  simp only [writeAt]; unfold wrBox; rfl
theorem writeAt_eref (t : List AV) (ob : Nat → Option AObj) (nx l sz i off : Nat) (cs : List AV) : writeAt ⟨t, ob, nx⟩ cs (.eref l sz i off) = wrArr cs l sz i off (ob l) := by
  simp only [writeAt]; unfold wrArr; rfl
theorem upd_apply (f : Nat → Option AObj) (l : Nat) (o : Option AObj) (k : Nat) : upd f l o k = if k = l then o else f k := _root_.id rfl

/-! effects, a form at a time -/
def Eff.box (nid t : Nat) : Option (List AV) → Option (AV × Eff)
  | some cs => some (.ref nid 0, .new (.box t cs))
  | none => none
theorem aeff_alloc (nid : Nat) (t : TypeId) : aeff T s nid (.alloc t) = Eff.box nid t ((T.get t).map fun i => i.zero.map .c) := by
  simp only [aeff]; cases T.get t <;> rfl
theorem aeff_box (nid : Nat) (t : TypeId) (x : Operand) : aeff T s nid (.box t x) = Eff.box nid t (cellsOf s (s.eval x)) := by
  simp only [aeff]; cases cellsOf s (s.eval x) <;> rfl

def storeIf : Bool → Option (Nat × AObj) → Option (AV × Eff)
  | true, some (l, o) => some (.junk, .put l o)
  | _, _ => none
def stores (s : AState) (p : AV) : Option TI → Option (List AV) → Option (AV × Eff)
  | some i, some cs => storeIf (decide (cs.length = i.size) && cs.all (fun y => y.one s)) (writeAt s cs p)
  | _, _ => none
theorem aeff_store (nid : Nat) (t : TypeId) (p x : Operand) : aeff T s nid (.store t p x) = stores s (s.eval p) (T.get t) (cellsOf s (s.eval x)) := by
  simp only [aeff]
  cases T.get t with
  | none => rfl
  | some i =>
    cases cellsOf s (s.eval x) with
    | none => rfl
    | some cs =>
      simp only [stores]
      by_cases h : cs.length = i.size ∧ (cs.all fun y => y.one s) = true
      · rw [if_pos h, h.2, decide_eq_true h.1]
        cases writeAt s cs (s.eval p) <;> rfl
      · rw [if_neg h]
        have h2 : (decide (cs.length = i.size) && cs.all fun y => y.one s) = false := by
          rw [Bool.eq_false_iff]
          simpa only [ne_eq, Bool.and_eq_true, decide_eq_true_eq] using h
        rw [h2]
        cases writeAt s cs (s.eval p) <;> rfl
def makesIf (nid e : Nat) (j : TI) (l : Int) : Bool → Option (AV × Eff)
  | true => some (.lsl nid j.size 0 l.toNat, .new (.arr e j.size (List.replicate l.toNat j.zero)))
  | false => none
def makes (nid e : Nat) : Option TI → AV → AV → Option (AV × Eff)
  | some j, .c (.v (.int _ l)), .c (.v (.int _ c)) => makesIf nid e j l (decide (0 < j.size ∧ j.zero.length = j.size ∧ 0 ≤ l ∧ l ≤ c ∧ (j.bytes : Int) * c ≤ 140737488355328 ∧ c ≤ 9223372036854775807))
  | _, _, _ => none
theorem aeff_make (nid : Nat) (t e : TypeId) (l c : Operand) (h : T.desc t = some (.slice e)) : aeff T s nid (.makeSlice t l c) = makes nid e (T.get e) (s.eval l) (s.eval c) := by
  simp only [aeff, h]
  cases T.get e with
  | none => rfl
  | some j =>
    simp only
    split
    · rename_i k l' k' c' h1 h2
      rw [h1, h2]
      simp only [makes]
      by_cases hc : 0 < j.size ∧ j.zero.length = j.size ∧ 0 ≤ l' ∧ l' ≤ c' ∧ (j.bytes : Int) * c' ≤ 140737488355328 ∧ c' ≤ 9223372036854775807
      · rw [if_pos hc, decide_eq_true hc]; rfl
      · rw [if_neg hc, decide_eq_false hc]; rfl
    · rename_i hn
      unfold makes
      split
      · rename_i h1 h2 h3; exact (hn _ _ _ _ ‹_› ‹_›).elim
      · rfl

/-! calls -/
def okArg : AV → Bool
  | .c _ => true
  | .agg cs => decide (cs.length < 99) && cs.all fun x => match x with | .c _ => true | _ => false
  | _ => false

theorem snapL_closed : ∀ (k : Nat) (cs : List AV), cs.length < k → (cs.all fun x => match x with | .c _ => true | _ => false) = true → ∃ vs, snapL s (k + 1) cs = some vs ∧ cs = vs.map .c
  | k, [], h, hc => ⟨[], by simp [snapL]⟩
  | 0, _ :: _, h, hc => by simp at h
  | k + 1, x :: xs, h, hc => by
    simp only [List.all_cons, Bool.and_eq_true] at hc
    obtain ⟨vs, h1, h2⟩ := snapL_closed k xs (by simpa using h) hc.2
    cases x with
    | c y => exact ⟨y :: vs, by simp [snapL, snap1, h1], by simp [h2]⟩
    | _ => simp at hc

theorem snapArgs_ok : ∀ (xs : List AV), xs.all okArg = true → snapArgs s xs = some xs ∧ xs.all AV.closed = true
  | [], _ => ⟨rfl, rfl⟩
  | x :: xs, h => by
    simp only [List.all_cons, Bool.and_eq_true] at h
    obtain ⟨h1, h2⟩ := snapArgs_ok xs h.2
    cases x with
    | c y => exact ⟨by simp [snapArgs, snapA, snap1, h1], by simp [AV.closed, h2]⟩
    | agg cs =>
      have h3 := h.1
      simp only [okArg, Bool.and_eq_true, decide_eq_true_eq] at h3
      obtain ⟨vs, h4, h5⟩ := snapL_closed (s := s) 99 cs h3.1 h3.2
      exact ⟨by simp [snapArgs, snapA, h4, h1, ← h5], by simp only [List.all_cons, AV.closed, Bool.and_eq_true]; exact ⟨h3.2, h2⟩⟩
    | _ => simp [okArg] at h

/-- A call whose arguments are told without local objects. -/
theorem acall_in {nid : Nat} {f : FuncId} {xs : List AV} {r : RV} {K : AV → AState → Prop} (hR : Ret P f none xs [] r) (ho : xs.all okArg = true) (hk : K (r.av nid) (s.ret nid r)) : acall q P s nid f xs K := by
  obtain ⟨h1, h2⟩ := snapArgs_ok (s := s) xs ho
  exact .inl (.inl ⟨xs, r, h1, .inl h2, hR, hk⟩)
/-- A call; these objects are laid open before. -/
theorem acall_fz (ls : List Nat) {nid : Nat} {f : FuncId} {xs args : List AV} {s' : AState} {r : RV} {K : AV → AState → Prop} (hf : fzL s xs ls = (s', args)) (ho : args.all okArg = true) (hR : Ret P f none args [] r) (hk : K (r.av nid) (s'.ret nid r)) : acall false P s nid f xs K := by
  obtain ⟨h1, h2⟩ := snapArgs_ok (s := s') args ho
  refine .inr ⟨rfl, ls, ?_⟩
  rw [hf]
  exact .inl ⟨args, r, h1, .inl h2, hR, hk⟩
/-- A call that looks at local objects, with a plain result. -/
theorem acall_look {nid : Nat} {f : FuncId} {xs args : List AV} {r : RV} {K : AV → AState → Prop} (hs : snapArgs s xs = some args) (hR : Ret P f none args [] r) (hr : r.plain = true) (hk : K (r.av nid) (s.ret nid r)) : acall q P s nid f xs K :=
  .inl (.inl ⟨args, r, hs, .inr hr, hR, hk⟩)
/-- A call that may write the variable at its first argument. -/
theorem acall_io {nid : Nat} {f : FuncId} {l t : Nat} {cs rest : List AV} {cells out : List CV} {r : RV} {K : AV → AState → Prop} (ho : s.objs l = some (.box t cs)) (hc : toCVs cs = some cells) (hcl : rest.all AV.closed = true) (hR : Ret P f (some (t, cells)) rest out r) (hk : K (r.av nid) ((s.setBox l t out).ret nid r)) : acall false P s nid f (.ref l 0 :: rest) K :=
  .inl (.inr (.inl ⟨rfl, l, t, cs, cells, rest, out, r, rfl, ho, hc, hcl, hR, hk⟩))
/-- A call that may write the elements of the slice at its first argument. -/
theorem acall_arr {nid : Nat} {f : FuncId} {l e sz : Nat} {rest args : List AV} {rows rows' : List (List CV)} {r : RV} {n : Nat} {K : AV → AState → Prop} (ho : s.objs l = some (.arr e sz rows)) (hn : n = rows.length) (hs : snapArgs (s.drop l) rest = some args) (hR : RetA P f e sz rows args rows' r) (hr : r.plain = true) (hr' : (rows'.all fun x => x.all CV.plain) = true) (hk : K (r.av nid) ((s.setArr l e sz rows').ret nid r)) : acall false P s nid f (.lsl l sz 0 n :: rest) K := by
  subst hn
  exact .inl (.inr (.inr ⟨rfl, l, e, sz, rows, rest, args, rows', r, rfl, ho, hs, hr, hr', hR, hk⟩))

theorem Kont_eq (x : AV) (s' : AState) : Kont q P T ops rest dst K x s' = arun q P T ops rest ((s'.put dst x).bump) K := _root_.id rfl
theorem ret_c (nid : Nat) (x : CV) : s.ret nid (.c x) = s := _root_.id rfl
theorem ret_agg (nid : Nat) (cs : List CV) : s.ret nid (.agg cs) = s := _root_.id rfl
def retT (s : AState) (nid : Nat) : Option (Nat × Nat × List (List CV)) → AState
  | some o => { s with objs := upd s.objs nid (some (.arr o.1 o.2.1 o.2.2)) }
  | none => s
theorem ret_tup (nid : Nat) (xs : List T1) : s.ret nid (.tup xs) = retT s nid (ownOf xs) := by
  simp only [AState.ret]
  cases ownOf xs <;> rfl
theorem retT_none (nid : Nat) : retT s nid none = s := _root_.id rfl
theorem retT_some (t : List AV) (ob : Nat → Option AObj) (nx nid e sz : Nat) (rows : List (List CV)) : retT ⟨t, ob, nx⟩ nid (some (e, sz, rows)) = ⟨t, upd ob nid (some (.arr e sz rows)), nx⟩ := _root_.id rfl
theorem ownOf_nil : ownOf [] = none := _root_.id rfl
theorem ownOf_c (x : CV) (ts : List T1) : ownOf (.c x :: ts) = ownOf ts := _root_.id rfl
theorem ownOf_agg (cs : List CV) (ts : List T1) : ownOf (.agg cs :: ts) = ownOf ts := _root_.id rfl
theorem ownOf_own (e sz : Nat) (rows : List (List CV)) (ts : List T1) : ownOf (.own e sz rows :: ts) = some (e, sz, rows) := _root_.id rfl
theorem setArr_mk (t : List AV) (ob : Nat → Option AObj) (nx l e sz : Nat) (rows : List (List CV)) : AState.setArr ⟨t, ob, nx⟩ l e sz rows = ⟨t, upd ob l (some (.arr e sz rows)), nx⟩ := _root_.id rfl
theorem ret_own (t : List AV) (ob : Nat → Option AObj) (nx nid e sz : Nat) (rows : List (List CV)) : AState.ret ⟨t, ob, nx⟩ nid (.own e sz rows) = ⟨t, upd ob nid (some (.arr e sz rows)), nx⟩ := _root_.id rfl
theorem setBox_mk (t : List AV) (ob : Nat → Option AObj) (nx l ty : Nat) (out : List CV) : AState.setBox ⟨t, ob, nx⟩ l ty out = ⟨t, upd ob l (some (.box ty (out.map .c))), nx⟩ := _root_.id rfl
theorem av_c (nid : Nat) (x : CV) : RV.av nid (.c x) = .c x := _root_.id rfl
theorem av_agg (nid : Nat) (cs : List CV) : RV.av nid (.agg cs) = .agg (cs.map .c) := _root_.id rfl
theorem av_own (nid e sz : Nat) (rows : List (List CV)) : RV.av nid (.own e sz rows) = .lsl nid sz 0 rows.length := _root_.id rfl
theorem ret_obox (t : List AV) (ob : Nat → Option AObj) (nx nid : Nat) (ty : TypeId) (cells : List CV) : AState.ret ⟨t, ob, nx⟩ nid (.obox ty cells) = ⟨t, upd ob nid (some (.box ty (cells.map .c))), nx⟩ := _root_.id rfl
theorem av_obox (nid : Nat) (ty : TypeId) (cells : List CV) : RV.av nid (.obox ty cells) = .ref nid 0 := _root_.id rfl
theorem av_tup (nid : Nat) (xs : List T1) : RV.av nid (.tup xs) = .tup (xs.map (T1.av nid)) := _root_.id rfl
theorem av1_c (nid : Nat) (x : CV) : T1.av nid (.c x) = .c x := _root_.id rfl
theorem av1_agg (nid : Nat) (cs : List CV) : T1.av nid (.agg cs) = .agg (cs.map .c) := _root_.id rfl
theorem av1_own (nid e sz : Nat) (rows : List (List CV)) : T1.av nid (.own e sz rows) = .lsl nid sz 0 rows.length := _root_.id rfl

/-! choices -/
theorem z7 {c : Prop} [Decidable c] {x : AV} (h : c) (hk : arun q P T ops rest ((s.put dst x).bump) K) : Val q P T ops rest dst K s (if c then some x else none) := by rw [if_pos h]; exact hk
theorem z8 {c : Prop} [Decidable c] {x : AV} (h : ¬ c) (hk : arun q P T ops rest ((s.put dst x).bump) K) : Val q P T ops rest dst K s (if c then none else some x) := by rw [if_neg h]; exact hk
theorem Val_of {r : Option AV} {x : AV} (h : r = some x) (hk : arun q P T ops rest ((s.put dst x).bump) K) : Val q P T ops rest dst K s r := by subst h; exact hk
theorem Efx_of {r : Option (AV × Eff)} {x : AV} {e : Eff} (h : r = some (x, e)) (hk : arun q P T ops rest (((s.eff s.next e).put dst x).bump) K) : Efx q P T ops rest dst K s r := by subst h; exact hk

/-! strings' bytes -/
def byteAt (b : ByteArray) (i : Nat) : Int := ((b.data.toList.getD i 0).toNat : Int)
theorem byteAt_lt (b : ByteArray) (i : Nat) : 0 ≤ byteAt b i ∧ byteAt b i < 256 := by
  unfold byteAt
  have := (b.data.toList.getD i 0).toNat_lt
  omega
theorem aindex_str (t : TypeId) (b : ByteArray) (k : IntKind) (i : Int) (hd : T.desc t = some .string) : aindex T t (.c (.v (.string b))) (.c (.v (.int k i))) = if 0 ≤ i ∧ i < b.size then some (.c (.v (.int .u8 (byteAt b i.toNat)))) else none := by
  simp only [aindex, hd]
  by_cases h0 : 0 ≤ i
  · by_cases h1 : i < b.size
    · have h2 : i.toNat < b.size := by omega
      have h3 : b[i.toNat]? = some b[i.toNat] := getElem?_pos b i.toNat h2
      rw [if_pos h0, if_pos ⟨h0, h1⟩, h3]
      have h4 : b.data.toList.getD i.toNat 0 = b[i.toNat] := by
        have h5 : i.toNat < b.data.toList.length := by rw [Array.length_toList]; exact h2
        rw [List.getD_eq_getElem?_getD, List.getElem?_eq_getElem h5, Option.getD_some]
        simp only [Array.getElem_toList]
        rfl
      simp only [byteAt, h4]
    · have h2 : ¬ i.toNat < b.size := by omega
      have h3 : b[i.toNat]? = none := getElem?_neg b i.toNat h2
      rw [if_pos h0, if_neg (by omega), h3]
  · rw [if_neg h0, if_neg (by omega)]

/-! what is handed back -/
def outO (s : AState) (r : RV) : Option AV → Prop
  | some x => outRV s x r
  | none => False
theorem fpost_ret (rs : List ResultVar) (out : List CV) (r : RV) : fpost T rs none out r .ret s = outO s r (aresults T s rs) := by
  simp only [fpost, outIo]
  cases aresults T s rs <;> simp [outO]
theorem fpost_normal (rs : List ResultVar) (out : List CV) (r : RV) : fpost T rs none out r .normal s = outO s r (aresults T s rs) := by
  simp only [fpost, outIo]
  cases aresults T s rs <;> simp [outO]
theorem outO_c (x : CV) (y : CV) : outO s (.c y) (some (.c x)) = (x = y) := by
  simp [outO, outRV, snap1]
theorem outO_agg (xs : List AV) (cs : List CV) : outO s (.agg cs) (some (.agg xs)) = (snapL s 100 xs = some cs) := by
  simp [outO, outRV]
theorem outO_own (l sz n e : Nat) (rows : List (List CV)) : outO s (.own e sz rows) (some (.lsl l sz 0 n)) = (n = rows.length ∧ s.objs l = some (.arr e sz rows)) := by
  simp only [outO, outRV, eq_iff_iff]
  constructor
  · rintro ⟨l', h1, h2⟩
    cases h1
    exact ⟨rfl, h2⟩
  · rintro ⟨rfl, h2⟩
    exact ⟨l, rfl, h2⟩
theorem ares_tmp (t : List AV) (ob : Nat → Option AObj) (n k : Nat) : ares T ⟨t, ob, n⟩ (.tmp k) = some (t.getD k .junk) := _root_.id rfl
theorem ares_cell (ad : Nat) (t : TypeId) : ares T s (.cell ad t) = aload s (s.tmps.getD ad .junk) (T.get t) := by
  simp only [ares]; unfold aload; cases T.get t with
  | none => rfl
  | some i => cases h : readAt s i.size (s.tmps.getD ad .junk) <;> simp [loaded, h] <;> rfl
theorem aresults_one (r : ResultVar) : aresults T s [r] = ares T s r := by
  simp only [aresults, aresAll]
  cases ares T s r <;> rfl
def atup : Option (List AV) → Option AV
  | some xs => some (.tup xs)
  | none => none
theorem aresults_more (r r' : ResultVar) (rs : List ResultVar) : aresults T s (r :: r' :: rs) = atup (aresAll T s (r :: r' :: rs)) := by
  simp only [aresults, aresAll]
  cases ares T s r with
  | none => rfl
  | some x =>
    cases ares T s r' with
    | none => rfl
    | some y => cases aresAll T s rs <;> rfl
theorem snapL_nil (k : Nat) : snapL s (k + 1) [] = some [] := by simp [snapL]
theorem snapL_cons (k : Nat) (y : CV) (xs : List AV) : snapL s (k + 2) (.c y :: xs) = (snapL s (k + 1) xs).map (y :: ·) := by
  simp only [snapL, snap1]
  cases snapL s (k + 1) xs <;> rfl

/-! types' looks come first -/
def fieldTI (f : Nat) : Option TI → Option (TypeId × Nat)
  | some ⟨.struct fs, _, _, _⟩ => fs[f]?
  | _ => none
def frefs (x : AV) : Bool → Option AV
  | true => some x
  | false => none
def faddrX (s : AState) (off : Nat) : AV → Option AV
  | .ref l o => frefs (.ref l (o + off)) (s.alive l)
  | .eref l sz k o => frefs (.eref l sz k (o + off)) (s.alive l)
  | .c (.rp cells) => some (.c (.rp (cells.drop off)))
  | _ => none
def faddrJ (s : AState) (x : AV) (off : Nat) : Option TI → Option AV
  | some j => if j.size = 0 then none else faddrX s off x
  | none => none
def faddrT (T : Tab) (s : AState) (x : AV) : Option (TypeId × Nat) → Option AV
  | some (ft, off) => faddrJ s x off (T.get ft)
  | none => none
theorem afieldAddr_eq (t : TypeId) (f : Nat) (x : AV) : afieldAddr T s t f x = faddrT T s x (fieldTI f (T.get t)) := by
  unfold afieldAddr
  cases T.get t with
  | none => rfl
  | some i =>
    obtain ⟨d, n, b, z⟩ := i
    cases d with
    | struct fs =>
      simp only [fieldTI]
      cases fs[f]? with
      | none => rfl
      | some p =>
        obtain ⟨ft, off⟩ := p
        simp only [faddrT]
        cases T.get ft with
        | none => rfl
        | some j =>
          simp only [faddrJ]
          split
          · rfl
          · cases x with
            | ref l o => simp only [faddrX]; cases s.alive l <;> rfl
            | eref l sz k o => simp only [faddrX]; cases s.alive l <;> rfl
            | c y => cases y <;> rfl
            | _ => rfl
    | _ => rfl
def partJ (cs : List AV) (off : Nat) : Option TI → Option AV
  | some i => if i.d.isAgg then (if off + i.size ≤ cs.length then some (.agg ((cs.drop off).take i.size)) else none) else cs[off]?
  | none => none
theorem apart_eq (t : TypeId) (cs : List AV) (off : Nat) : apart T t cs off = partJ cs off (T.get t) := by
  unfold apart partJ; rfl
def lenD (s : AState) : Option TI → AV → Option AV
  | some ⟨.string, _, _, _⟩, .c (.v (.string b)) => some (.c (.v (.int .i64 b.size)))
  | some ⟨.slice _, _, _, _⟩, .c (.sl _ _ _ rows) => some (.c (.v (.int .i64 rows.length)))
  | some ⟨.slice _, _, _, _⟩, .lsl l _ _ len => frefs (.c (.v (.int .i64 len))) (s.alive l)
  | _, _ => none
theorem alen_eq (t : TypeId) (x : AV) : alen T s t x = lenD s (T.get t) x := by
  unfold alen Tab.desc
  cases T.get t with
  | none =>
    cases x with
    | c y =>
      cases y with
      | v u => cases u <;> rfl
      | _ => rfl
    | lsl l _ _ len => simp [lenD]
    | _ => rfl
  | some i =>
    obtain ⟨d, n, b, z⟩ := i
    cases x with
    | c y =>
      cases y with
      | v u => cases u <;> cases d <;> rfl
      | sl _ _ _ _ => cases d <;> rfl
      | _ => cases d <;> rfl
    | lsl l _ _ len => cases d <;> simp only [lenD] <;> cases s.alive l <;> rfl
    | _ => cases d <;> rfl
def bytesS : Option (List UInt8) → Option AV
  | some l => some (.c (.v (.string ⟨l.toArray⟩)))
  | none => none
def convB (rows : List (List CV)) : Option TI → Option AV
  | some ⟨.int .u8, _, _, _⟩ => bytesS (bytesL rows)
  | _ => none
theorem bytesL_nil : bytesL [] = some [] := _root_.id rfl
def bytesC (b : UInt8) : Option (List UInt8) → Option (List UInt8)
  | some l => some (b :: l)
  | none => none
theorem bytesL_cons (n : Int) (rs : List (List CV)) : bytesL ([.v (.int .u8 n)] :: rs) = bytesC (UInt8.ofNat n.toNat) (bytesL rs) := by
  rw [bytesL]; cases bytesL rs <;> rfl
def convD (T : Tab) : Option TI → Option TI → AV → Option AV
  | some ⟨.slice e, _, _, _⟩, some ⟨.string, _, _, _⟩, .c (.sl _ _ 1 rows) => convB rows (T.get e)
  | some ⟨.int _, _, _, _⟩, some ⟨.int k, _, _, _⟩, .c (.v (.int _ n)) => some (.c (.v (.int k (k.wrap n))))
  | some ⟨.string, _, _, _⟩, some ⟨.string, _, _, _⟩, .c (.v (.string s)) => some (.c (.v (.string s)))
  | _, _, _ => none
theorem aconv_eq (a b : TypeId) (x : AV) : aconv T a b x = convD T (T.get a) (T.get b) x := by
  unfold aconv Tab.desc
  cases x with
  | c y =>
    cases y with
    | v u =>
      cases u <;> (cases T.get a with
        | none => rfl
        | some i => cases T.get b with
          | none => (obtain ⟨d, n, b, z⟩ := i; cases d <;> rfl)
          | some j => (obtain ⟨d, n, b, z⟩ := i; obtain ⟨d', n', b', z'⟩ := j; cases d <;> cases d' <;> rfl))
    | sl nl full sz rows =>
      rcases sz with _ | _ | sz
      · (cases T.get a with
        | none => rfl
        | some i => cases T.get b with
          | none => (obtain ⟨d, n, b, z⟩ := i; cases d <;> rfl)
          | some j => (obtain ⟨d, n, b, z⟩ := i; obtain ⟨d', n', b', z'⟩ := j; cases d <;> cases d' <;> rfl))
      · (cases T.get a with
        | none => rfl
        | some i => cases T.get b with
          | none => (obtain ⟨d, n, b, z⟩ := i; cases d <;> rfl)
          | some j =>
            obtain ⟨d, n, b, z⟩ := i
            obtain ⟨d', n', b', z'⟩ := j
            cases d with
            | slice e =>
              cases d' with
              | string =>
                simp only [convD]
                cases T.get e with
                | none => rfl
                | some k =>
                  obtain ⟨d2, n2, b2, z2⟩ := k
                  cases d2 with
                  | int k => cases k <;> first | rfl | (simp only [convB]; cases bytesL rows <;> rfl)
                  | _ => rfl
              | _ => rfl
            | _ => cases d' <;> rfl)
      · (cases T.get a with
        | none => rfl
        | some i => cases T.get b with
          | none => (obtain ⟨d, n, b, z⟩ := i; cases d <;> rfl)
          | some j => (obtain ⟨d, n, b, z⟩ := i; obtain ⟨d', n', b', z'⟩ := j; cases d <;> cases d' <;> rfl))
    | _ => (cases T.get a with
        | none => rfl
        | some i => cases T.get b with
          | none => (obtain ⟨d, n, b, z⟩ := i; cases d <;> rfl)
          | some j => (obtain ⟨d, n, b, z⟩ := i; obtain ⟨d', n', b', z'⟩ := j; cases d <;> cases d' <;> rfl))
  | _ => (cases T.get a with
        | none => rfl
        | some i => cases T.get b with
          | none => (obtain ⟨d, n, b, z⟩ := i; cases d <;> rfl)
          | some j => (obtain ⟨d, n, b, z⟩ := i; obtain ⟨d', n', b', z'⟩ := j; cases d <;> cases d' <;> rfl))

def boolCmp : BinOp → Option TI → Bool → Bool → Option AV
  | .eql, some ⟨.bool, _, _, _⟩, a, b => some (.c (.v (.bool (a == b))))
  | .neq, some ⟨.bool, _, _, _⟩, a, b => some (.c (.v (.bool (!(a == b)))))
  | _, _, _, _ => none
theorem abin_beq (t : TypeId) (a b : Bool) : abin T s .eql t (.c (.v (.bool a))) (.c (.v (.bool b))) = boolCmp .eql (T.get t) a b := by
  unfold abin Tab.desc
  cases T.get t with
  | none => rfl
  | some i => obtain ⟨d, n, b, z⟩ := i; cases d <;> rfl
theorem abin_bne (t : TypeId) (a b : Bool) : abin T s .neq t (.c (.v (.bool a))) (.c (.v (.bool b))) = boolCmp .neq (T.get t) a b := by
  unfold abin Tab.desc
  cases T.get t with
  | none => rfl
  | some i => obtain ⟨d, n, b, z⟩ := i; cases d <;> rfl
def iaddrX (s : AState) (sz : Nat) : AV → Int → Option AV
  | .c (.sl _ _ sz' rows), i => if sz' = sz ∧ 0 ≤ i ∧ i < rows.length then some (.c (.rp (rows.getD i.toNat []))) else none
  | .lsl l sz' off len, i => if sz' = sz ∧ s.alive l = true ∧ 0 ≤ i ∧ i < len then some (.eref l sz' (off + i.toNat) 0) else none
  | _, _ => none
def iaddrA (s : AState) (n sz : Nat) : AV → Int → Option AV
  | .ref l o, i => if s.alive l = true ∧ 0 ≤ i ∧ i < n then some (.ref l (o + i.toNat * sz)) else none
  | .eref l z k o, i => if s.alive l = true ∧ 0 ≤ i ∧ i < n then some (.eref l z k (o + i.toNat * sz)) else none
  | .c (.rp cells), i => if 0 ≤ i ∧ i < n then some (.c (.rp (cells.drop (i.toNat * sz)))) else none
  | _, _ => none
def iaddrJ (s : AState) (x : AV) (i : Int) : Option TI → Option AV
  | some j => iaddrX s j.size x i
  | none => none
def iaddrK (s : AState) (n : Nat) (x : AV) (i : Int) : Option TI → Option AV
  | some j => iaddrA s n j.size x i
  | none => none
def iaddrT (T : Tab) (s : AState) (x : AV) (i : Int) : Option TI → Option AV
  | some ⟨.slice e, _, _, _⟩ => iaddrJ s x i (T.get e)
  | some ⟨.array n e, _, _, _⟩ => iaddrK s n x i (T.get e)
  | _ => none
theorem aindexAddr_eq (t : TypeId) (x : AV) (k : IntKind) (i : Int) : aindexAddr T s t x (.c (.v (.int k i))) = iaddrT T s x i (T.get t) := by
  unfold aindexAddr Tab.desc
  simp only
  cases T.get t with
  | none => rfl
  | some ti =>
    obtain ⟨d, n, b, z⟩ := ti
    cases d with
    | slice e =>
      simp only [iaddrT]
      cases T.get e with
      | none => rfl
      | some j =>
        simp only [iaddrJ]
        cases x with
        | c y =>
          cases y with
          | sl nl fl sz rows =>
            simp only [iaddrX, true_and]
            by_cases h1 : sz = j.size
            · by_cases h2 : 0 ≤ i
              · by_cases h3 : i < rows.length
                · have h4 : i.toNat < rows.length := by omega
                  rw [if_pos h1, if_pos h2, if_pos ⟨h1, h2, h3⟩, List.getElem?_eq_getElem h4, List.getD_eq_getElem?_getD, List.getElem?_eq_getElem h4]
                  rfl
                · have h4 : rows.length ≤ i.toNat := by omega
                  rw [if_pos h1, if_pos h2, if_neg (by omega), List.getElem?_eq_none h4]
              · rw [if_pos h1, if_neg h2, if_neg (by omega)]
            · rw [if_neg h1, if_neg (by intro h; exact h1 h.1)]
          | _ => rfl
        | lsl l sz off len =>
          simp only [iaddrX]
          by_cases h1 : sz = j.size
          · by_cases h2 : s.alive l = true
            · by_cases h3 : 0 ≤ i ∧ i < len
              · rw [if_pos h1, if_pos h2, if_pos h3, if_pos ⟨h1, h2, h3⟩]
              · rw [if_pos h1, if_pos h2, if_neg h3, if_neg (fun h => h3 h.2.2)]
            · rw [if_pos h1, if_neg h2, if_neg (fun h => h2 h.2.1)]
          · rw [if_neg h1, if_neg (fun h => h1 h.1)]
        | _ => rfl
    | array m e =>
      simp only [iaddrT]
      cases T.get e with
      | none => rfl
      | some j =>
        simp only [iaddrK]
        by_cases h3 : 0 ≤ i ∧ i < m
        · rw [if_pos h3]
          cases x with
          | ref l o =>
            simp only [iaddrA]
            by_cases h2 : s.alive l = true
            · rw [if_pos h2, if_pos ⟨h2, h3⟩]
            · rw [if_neg h2, if_neg (fun h => h2 h.1)]
          | eref l z k o =>
            simp only [iaddrA]
            by_cases h2 : s.alive l = true
            · rw [if_pos h2, if_pos ⟨h2, h3⟩]
            · rw [if_neg h2, if_neg (fun h => h2 h.1)]
          | c y =>
            cases y with
            | rp cells => simp only [iaddrA]; rw [if_pos h3]
            | _ => rfl
          | _ => rfl
        · rw [if_neg h3]
          cases x with
          | ref l o => simp only [iaddrA]; rw [if_neg (fun h => h3 h.2)]
          | eref l z k o => simp only [iaddrA]; rw [if_neg (fun h => h3 h.2)]
          | c y =>
            cases y with
            | rp cells => simp only [iaddrA]; rw [if_neg h3]
            | _ => rfl
          | _ => rfl
    | _ => rfl
def indexT (T : Tab) (x : AV) (i : Int) : Option TI → Option AV
  | some ⟨.string, _, _, _⟩ => strIx x i
  | some ⟨.array n e, _, _, _⟩ => arrIx x i n (T.get e)
  | _ => none
where
  strIx : AV → Int → Option AV
    | .c (.v (.string b)), i => if 0 ≤ i ∧ i < b.size then some (.c (.v (.int .u8 (byteAt b i.toNat)))) else none
    | _, _ => none
  arrIx : AV → Int → Nat → Option TI → Option AV
    | .agg cs, i, n, some j => if 0 ≤ i ∧ i < n then partJ cs (i.toNat * j.size) (some j) else none
    | _, _, _, _ => none
theorem aindex_eq (t : TypeId) (x : AV) (k : IntKind) (i : Int) : aindex T t x (.c (.v (.int k i))) = indexT T x i (T.get t) := by
  cases h : T.get t with
  | none => simp [aindex, Tab.desc, h, indexT]
  | some ti =>
    obtain ⟨d, n, b, z⟩ := ti
    cases d with
    | string =>
      simp only [indexT]
      cases x with
      | c y =>
        cases y with
        | v u =>
          cases u with
          | string b =>
            simp only [indexT.strIx]
            exact aindex_str t b k i (by simp [Tab.desc, h])
          | _ => simp [aindex, Tab.desc, h, indexT.strIx]
        | _ => simp [aindex, Tab.desc, h, indexT.strIx]
      | _ => simp [aindex, Tab.desc, h, indexT.strIx]
    | array m e =>
      simp only [indexT]
      cases x with
      | agg cs =>
        cases hj : T.get e with
        | none => simp [aindex, Tab.desc, h, hj, indexT.arrIx]
        | some j => simp [aindex, Tab.desc, h, hj, indexT.arrIx, apart_eq]
      | _ => simp [aindex, Tab.desc, h, indexT.arrIx]
    | _ => simp [aindex, Tab.desc, h, indexT]
end

theorem wrap_i64 {n : Int} (h1 : -9223372036854775808 ≤ n) (h2 : n ≤ 9223372036854775807) : IntKind.wrap .i64 n = n := by
  rw [IntKind.wrap_i64]; omega


section
variable {q : Bool} {P : Program} {T : Tab} {E : Entry} {ops : Array Oper} {rest : List Oper} {dst : Option Tmp} {s : AState} {K : AState → Prop} {Q : APost}
theorem z1 {a b : Code} {p : Prop} [Decidable p] (h1 : p → vc P T E a Q s) (h2 : ¬ p → vc P T E b Q s) : Cnd P T E a b Q s (.c (.v (.bool (decide p)))) :=
  z2 (fun h => h1 (of_decide_eq_true h)) (fun h => h2 (of_decide_eq_false h))
theorem z3 {op : Op} {p : Prop} [Decidable p] (h1 : p → Step q P T ops rest dst K s op) (h2 : ¬ p → arun q P T ops rest ((s.put dst (.tup [])).bump) K) : Grd q P T ops rest dst K s op true (some (some (decide p))) :=
  z5 (fun h => h1 (of_decide_eq_true h)) (fun h => h2 (of_decide_eq_false h))
theorem z4 {op : Op} {p : Prop} [Decidable p] (h1 : ¬ p → Step q P T ops rest dst K s op) (h2 : p → arun q P T ops rest ((s.put dst (.tup [])).bump) K) : Grd q P T ops rest dst K s op false (some (some (decide p))) :=
  z6 (fun h => h1 (of_decide_eq_false h)) (fun h => h2 (of_decide_eq_true h))

def leL : List AV → List AV → Prop
  | [], [] => True
  | x :: xs, y :: ys => (y = .junk ∨ y = x) ∧ leL xs ys
  | _, _ => False
theorem leL_len : ∀ {xs ys : List AV}, leL xs ys → ys.length = xs.length
  | [], [], _ => rfl
  | x :: xs, y :: ys, h => by simp [leL_len h.2]
  | [], _ :: _, h => h.elim
  | _ :: _, [], h => h.elim
theorem leL_get : ∀ {xs ys : List AV}, leL xs ys → ∀ (i : Nat) y, ys[i]? = some y → y = .junk ∨ xs[i]? = some y
  | [], [], _, i, y, h => by simp at h
  | x :: xs, z :: zs, h, 0, y, hy => by
    cases hy
    rcases h.1 with e | e
    · exact .inl e
    · subst e; exact .inr rfl
  | x :: xs, z :: zs, h, i + 1, y, hy => leL_get h.2 i y hy
  | [], _ :: _, h, _, _, _ => h.elim
  | _ :: _, [], h, _, _, _ => h.elim
def objsOf : List (Nat × AObj) → Nat → Option AObj
  | [], _ => none
  | (l, o) :: r, k => if k = l then some o else objsOf r k
def leO (ob0 : Nat → Option AObj) (n : Nat) : List (Nat × AObj) → Prop
  | [] => True
  | (l, o) :: r => (ob0 l = some o ∧ l < n ∧ o.lo (fun l => l < n)) ∧ leO ob0 n r
theorem leO_get {ob0 : Nat → Option AObj} {n : Nat} : ∀ {L : List (Nat × AObj)}, leO ob0 n L → ∀ l o, objsOf L l = some o → ob0 l = some o ∧ l < n ∧ o.lo (fun l => l < n)
  | [], _, l, o, h => by simp [objsOf] at h
  | (k, u) :: r, h, l, o, ho => by
    simp only [objsOf] at ho
    split at ho
    · rename_i e; subst e; cases ho; exact h.1
    · exact leO_get h.2 l o ho
/-- A weaker state, told by its lists. -/
theorem Le.of {t0 t : List AV} {ob0 : Nat → Option AObj} {n0 n : Nat} {L : List (Nat × AObj)} (ht : leL t0 t) (hlo : ∀ x ∈ t, x.lo (fun l => l < n)) (hO : leO ob0 n L) (hn : 0 < n) : Le ⟨t0, ob0, n0⟩ ⟨t, objsOf L, n⟩ where
  len := leL_len ht
  tmps := leL_get ht
  objs := fun l o h => (leO_get hO l o h).1
  wfT := hlo
  wfO := fun l o h => (leO_get hO l o h).2
  pos := hn
theorem vc_of_loop (hT : Tab.ok P T = true) {c : Code} {ι : Type} (I : ι → AState) (μ : ι → Nat) (i0 : ι) (h0 : Le s (I i0)) (round : ∀ i, vc P T E c (athen (fun s' => ∃ i', Le s' (I i') ∧ μ i' < μ i) Q) (I i)) : vc P T E (.loop c) Q s :=
  AWP.loop I μ i0 h0 fun i => vc_sound hT c (round i)
theorem vc_of_draw (hT : Tab.ok P T = true) (hm : P.follows .mixedOrders = true) {id : Nat} (hok : okDraw ops (masks ops.toList []) = true) (h : arun true P T ops ops.toList s (Q .normal)) : vc P T E (.region id ops true) Q s :=
  AWP.draw hT hm hok h
theorem empty_iff (b : ByteArray) : (b = (⟨#[]⟩ : ByteArray)) = (b.size = 0) := by
  rw [eq_iff_iff]
  constructor
  · rintro rfl; rfl
  · intro h; exact ByteArray.ext (Array.size_eq_zero_iff.1 h)
theorem objsOf_nil (k : Nat) : objsOf [] k = none := _root_.id rfl
theorem objsOf_cons (l k : Nat) (o : AObj) (r : List (Nat × AObj)) : objsOf ((l, o) :: r) k = if k = l then some o else objsOf r k := _root_.id rfl
end

attribute [push_cast] ret_obox av_obox empty_iff objsOf_nil objsOf_cons vc_skip vc_region vc_seq vc_cond vc_block vc_exit vc_ret arun_nil arun_none arun_grd Grd_gone Grd_yes Grd_no Grd_yes' Grd_no' Val_some Efx_some Cal_fn Cal_c Cnd_true Cnd_false
  Step_move Step_assign Step_pick apick Step_load Step_nil Step_bin Step_un Step_conv Step_slice Step_fieldAddr Step_field Step_indexAddr Step_index Step_extract Step_makeFunc Step_alloc Step_box Step_build Step_buildSlice Step_makeSlice Step_store Step_append Step_len Step_max Step_min Step_call
  athen_normal athen_ret athen_exit inBlock_normal inBlock_ret inBlock_exit eval_tmp eval_int eval_bool eval_str eval_nils eval_nilp eval_func put_some put_none bump_mk eff_no eff_new eff_put eff_app
  abin_add abin_sub abin_mul abin_eql abin_neq abin_lss abin_leq abin_gtr abin_geq abin_quo abin_rem abin_seq abin_sne abin_beq abin_bne boolCmp beq_self_eq_true Bool.not_true Bool.not_false aun aload loaded exactly readAt_ref readAt_eref readAt_rp alive_mk rdBox rdArr writeAt_ref writeAt_eref wrBox wrArr upd_apply Eff.box aeff_alloc aeff_box cellsOf anil
  afieldAddr_eq fieldTI faddrT faddrJ faddrX frefs afield afield2 apart_eq partJ alen_eq lenD aconv_eq convD convB bytesL_nil bytesL_cons bytesC bytesS noE EfxF_some aindexAddr_eq iaddrT iaddrJ iaddrK iaddrX iaddrA aindex_eq indexT indexT.strIx indexT.arrIx aextract ayield startS Kont_eq ret_c ret_agg ret_tup ret_own retT_none retT_some ownOf_nil ownOf_c ownOf_agg ownOf_own setArr_mk setBox_mk av_c av_agg av_own av_tup av1_c av1_agg av1_own TD.isAgg
  aeff_store stores storeIf makes AV.one List.all_cons List.all_nil Bool.and_true Bool.true_and decide_true
  fpost_ret fpost_normal outO_c outO_agg outO_own ares_tmp ares_cell aresults_one aresults_more aresAll atup snapL_nil snapL_cons snapArgs snapA snap1 splice toCVs
  List.getD_cons_zero List.getD_cons_succ List.set List.replicate List.length_cons List.length_nil List.cons_append List.nil_append List.append_nil List.getElem?_toArray List.getElem?_cons_zero List.getElem?_cons_succ List.map List.take List.drop List.length_map
  Int.toNat_natCast Option.map_some Option.map_none Option.bind_some Option.isSome_some Option.isSome_none Bool.false_eq_true
end Go.Proofs.Ytnnpjblpiecfdaa.Fw
