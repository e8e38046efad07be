/- Slices that are built, appended to, frozen: how they are reckoned. -/
import Derived.Test.YtnnpjblpiecfdaaFwYc
namespace Go.Proofs.Ytnnpjblpiecfdaa.Fw
open Go.RowKit
set_option linter.unusedVariables false
set_option linter.unusedSimpArgs false

section
variable {q : Bool} {P : Program} {T : Tab} {E : Entry} {ops : Array Oper} {rest : List Oper} {dst : Option Tmp} {s : AState} {K : AState → Prop} {Q : APost}

/-! slices of slices -/
def slcB2 (b : ByteArray) (h : Nat) : Option Nat → Option AV
  | some l => some (.c (.v (.string (b.extract l h))))
  | none => none
def slcB (b : ByteArray) (lo : Option AV) : Option Nat → Option AV
  | some h => slcB2 b h (bound? h 0 lo)
  | none => none
def slcC2 (nl : Bool) (sz : Nat) (rows : List (List CV)) (h : Nat) : Option Nat → Option AV
  | some l => some (.c (.sl nl false sz ((rows.take h).drop l)))
  | none => none
def slcC (nl : Bool) (sz : Nat) (rows : List (List CV)) (lo : Option AV) : Option Nat → Option AV
  | some h => slcC2 nl sz rows h (bound? h 0 lo)
  | none => none
def slcL2 (l sz off h : Nat) : Option Nat → Option AV
  | some k => some (.lsl l sz (off + k) (h - k))
  | none => none
def slcL (l sz off : Nat) (lo : Option AV) : Option Nat → Option AV
  | some h => slcL2 l sz off h (bound? h 0 lo)
  | none => none
def slcX (s : AState) (lo hi : Option AV) (size : Nat) : AV → Option AV
  | .c (.sl nl _ sz rows) => if sz = size then slcC nl sz rows lo (bound? rows.length rows.length hi) else none
  | .lsl l sz off len => if sz = size then (if s.alive l then slcL l sz off lo (bound? len len hi) else none) else none
  | _ => none
def slcE (s : AState) (lo hi : Option AV) (x : AV) : Option TI → Option AV
  | some j => slcX s lo hi j.size x
  | none => none
def slcS (lo hi : Option AV) : AV → Option AV
  | .c (.v (.string b)) => slcB b lo (bound? b.size b.size hi)
  | _ => none
def slcT (T : Tab) (s : AState) (lo hi : Option AV) (x : AV) : Option TI → Option AV
  | some ⟨.string, _, _, _⟩ => slcS lo hi x
  | some ⟨.slice e, _, _, _⟩ => slcE s lo hi x (T.get e)
  | _ => none
theorem aslice_eq (t : TypeId) (x : AV) (lo hi : Option AV) : aslice T s t x lo hi none = slcT T s lo hi x (T.get t) := by
  simp only [aslice, Tab.desc]
  cases T.get t with
  | none => rfl
  | some i =>
    obtain ⟨d, m, b, z⟩ := i
    cases d with
    | string =>
      cases x with
      | c y =>
        cases y with
        | v u =>
          cases u <;> first
            | rfl
            | (simp only [slcT, slcS]
               cases bound? _ _ hi with
               | none => rfl
               | some h => simp only [slcB]; cases bound? h 0 lo <;> rfl)
        | _ => rfl
      | _ => rfl
    | slice e =>
      cases x with
      | c y =>
        cases y with
        | sl nl full sz rows =>
          simp only [slcT]
          cases T.get e with
          | none => rfl
          | some j =>
            simp only [slcE, slcX]
            split
            · cases bound? rows.length rows.length hi with
              | none => rfl
              | some h => simp only [slcC]; cases bound? h 0 lo <;> rfl
            · rfl
        | _ => simp only [slcT]; cases T.get e <;> rfl
      | lsl l sz off len =>
        simp only [slcT]
        cases T.get e with
        | none => rfl
        | some j =>
          simp only [slcE, slcX]
          split
          · split
            · cases bound? len len hi with
              | none => rfl
              | some h => simp only [slcL]; cases bound? h 0 lo <;> rfl
            · rfl
          · rfl
      | _ => simp only [slcT]; cases T.get e <;> rfl
    | _ => rfl
theorem bound_none (n d : Nat) : bound? n d none = some d := _root_.id rfl
theorem bound_int (n d : Nat) (k : IntKind) (i : Int) : bound? n d (some (.c (.v (.int k i)))) = if 0 ≤ i ∧ i ≤ n then some i.toNat else none := _root_.id rfl
theorem slcC_if {c : Prop} [Decidable c] (nl : Bool) (sz : Nat) (rows : List (List CV)) (lo : Option AV) (k : Nat) : slcC nl sz rows lo (if c then some k else none) = if c then slcC nl sz rows lo (some k) else none := by split <;> rfl
theorem slcC2_if {c : Prop} [Decidable c] (nl : Bool) (sz : Nat) (rows : List (List CV)) (h k : Nat) : slcC2 nl sz rows h (if c then some k else none) = if c then slcC2 nl sz rows h (some k) else none := by split <;> rfl
theorem slcL_if {c : Prop} [Decidable c] (l sz off : Nat) (lo : Option AV) (k : Nat) : slcL l sz off lo (if c then some k else none) = if c then slcL l sz off lo (some k) else none := by split <;> rfl
theorem slcL2_if {c : Prop} [Decidable c] (l sz off h k : Nat) : slcL2 l sz off h (if c then some k else none) = if c then slcL2 l sz off h (some k) else none := by split <;> rfl
theorem slcB_if {c : Prop} [Decidable c] (b : ByteArray) (lo : Option AV) (k : Nat) : slcB b lo (if c then some k else none) = if c then slcB b lo (some k) else none := by split <;> rfl
theorem slcB2_if {c : Prop} [Decidable c] (b : ByteArray) (h k : Nat) : slcB2 b h (if c then some k else none) = if c then slcB2 b h (some k) else none := by split <;> rfl
theorem slcC_some (nl : Bool) (sz : Nat) (rows : List (List CV)) (lo : Option AV) (h : Nat) : slcC nl sz rows lo (some h) = slcC2 nl sz rows h (bound? h 0 lo) := _root_.id rfl
theorem slcC2_some (nl : Bool) (sz : Nat) (rows : List (List CV)) (h l : Nat) : slcC2 nl sz rows h (some l) = some (.c (.sl nl false sz ((rows.take h).drop l))) := _root_.id rfl
theorem slcL_some (l sz off : Nat) (lo : Option AV) (h : Nat) : slcL l sz off lo (some h) = slcL2 l sz off h (bound? h 0 lo) := _root_.id rfl
theorem slcL2_some (l sz off h k : Nat) : slcL2 l sz off h (some k) = some (.lsl l sz (off + k) (h - k)) := _root_.id rfl
theorem slcB_some (b : ByteArray) (lo : Option AV) (h : Nat) : slcB b lo (some h) = slcB2 b h (bound? h 0 lo) := _root_.id rfl
theorem slcB2_some (b : ByteArray) (h l : Nat) : slcB2 b h (some l) = some (.c (.v (.string (b.extract l h)))) := _root_.id rfl
theorem slcX_c (lo hi : Option AV) (size : Nat) (nl f : Bool) (sz : Nat) (rows : List (List CV)) : slcX s lo hi size (.c (.sl nl f sz rows)) = if sz = size then slcC nl sz rows lo (bound? rows.length rows.length hi) else none := _root_.id rfl
theorem slcX_lsl (lo hi : Option AV) (size l sz off len : Nat) : slcX s lo hi size (.lsl l sz off len) = if sz = size then (if s.alive l then slcL l sz off lo (bound? len len hi) else none) else none := _root_.id rfl
theorem z9 {c : Prop} [Decidable c] {r : Option AV} (h : c) (hk : Val q P T ops rest dst K s r) : Val q P T ops rest dst K s (if c then r else none) := by rw [if_pos h]; exact hk

/-! literals -/
def bslVs (nid e len sz : Nat) : Option (List CV) → Option (AV × Eff)
  | some vs => some (.lsl nid sz 0 len, .new (.arr e sz (rowsOf sz len vs)))
  | none => none
def bslCells (nid e len sz : Nat) : Option (List AV) → Option (AV × Eff)
  | some cells => bslVs nid e len sz (toCVs cells)
  | none => none
def bslJ (s : AState) (nid e len : Nat) (parts : List (Nat × AV)) : Option TI → Option (AV × Eff)
  | some j => if 0 < j.size ∧ len * j.size ≤ 16777216 ∧ j.zero.length = j.size then bslCells nid e len j.size (afill s (fun i => some (i * j.size, j.size)) (zeros len j.zero) parts) else none
  | none => none
def bslT (T : Tab) (s : AState) (nid len : Nat) (parts : List (Nat × AV)) : Option TI → Option (AV × Eff)
  | some ⟨.slice e, _, _, _⟩ => bslJ s nid e len parts (T.get e)
  | _ => none
theorem aeff_bsl (nid : Nat) (t : TypeId) (n : Nat) (ps : Array (Nat × Operand)) : aeff T s nid (.buildSlice t n ps) = bslT T s nid n (ps.toList.map fun p => (p.1, s.eval p.2)) (T.get t) := by
  simp only [aeff, Tab.desc]
  cases T.get t with
  | none => rfl
  | some i =>
    obtain ⟨d, m, b, z⟩ := i
    cases d with
    | slice e =>
      simp only [bslT]
      cases T.get e with
      | none => rfl
      | some j =>
        simp only [bslJ]
        split
        · cases afill s (fun i => some (i * j.size, j.size)) (zeros n j.zero) (ps.toList.map fun p => (p.1, s.eval p.2)) with
          | none => rfl
          | some cells =>
            simp only [bslCells]
            cases toCVs cells <;> rfl
        · rfl
    | _ => rfl

/-! a variable of the caller's at the end -/
def ioO (out : List CV) (t : TypeId) : Option AObj → Prop
  | some (.box t' cells) => t' = t ∧ toCVs cells = some out
  | _ => False
theorem outIo_eq (out : List CV) (t : TypeId) (cs : List CV) : outIo s out (some (t, cs)) = ioO out t (s.objs 0) := by
  simp only [outIo, eq_iff_iff]
  constructor
  · rintro ⟨cells, h1, h2⟩
    rw [h1]
    exact ⟨rfl, h2⟩
  · intro h
    cases ho : s.objs 0 with
    | none => rw [ho] at h; exact h.elim
    | some o =>
      rw [ho] at h
      cases o with
      | box t' cells => obtain ⟨rfl, h⟩ := h; exact ⟨cells, rfl, h⟩
      | arr e sz rows => exact h.elim
      | brr e sz rows => exact h.elim
theorem fpost_io_ret (rs : List ResultVar) (out : List CV) (r : RV) (t : TypeId) (cs : List CV) : fpost T rs (some (t, cs)) out r .ret s = (outO (s.drop 0) r (aresults T s rs) ∧ ioO out t (s.objs 0)) := by
  simp only [fpost, outIo_eq]
  cases aresults T s rs <;> simp [outO]
theorem fpost_io_normal (rs : List ResultVar) (out : List CV) (r : RV) (t : TypeId) (cs : List CV) : fpost T rs (some (t, cs)) out r .normal s = (outO (s.drop 0) r (aresults T s rs) ∧ ioO out t (s.objs 0)) := by
  simp only [fpost, outIo_eq]
  cases aresults T s rs <;> simp [outO]
theorem drop_mk (t : List AV) (ob : Nat → Option AObj) (n l : Nat) : AState.drop ⟨t, ob, n⟩ l = ⟨t, upd ob l none, n⟩ := _root_.id rfl

/-! structs -/
def bldC : Option (List AV) → Option AV
  | some cells => some (.agg cells)
  | none => none
def bldI (T : Tab) (s : AState) (parts : List (Nat × AV)) : Option TI → Option AV
  | some i => if allIn T i.d = true then bldC (afill s (placeOf T i.d) (i.zero.map .c) parts) else none
  | none => none
theorem abuild_eq (t : TypeId) (parts : List (Nat × AV)) : abuild T s t parts = bldI T s parts (T.get t) := by
  simp only [abuild]
  cases T.get t with
  | none => rfl
  | some i =>
    simp only [bldI]
    split
    · cases afill s (placeOf T i.d) (i.zero.map .c) parts <;> rfl
    · rfl
def loAll (U : Nat → Prop) : List AV → Prop
  | [] => True
  | x :: xs => x.lo U ∧ loAll U xs
theorem objLo_box (t : TypeId) (U : Nat → Prop) : ∀ (cells : List AV), (AObj.box t cells).lo U = loAll U cells
  | [] => by simp [AObj.lo, loAll]
  | x :: xs => by
    have ih := objLo_box t U xs
    simp only [AObj.lo] at ih ⊢
    simp only [loAll, ← ih, List.mem_cons, forall_eq_or_imp]
theorem objLo_arr (e sz : Nat) (rows : List (List CV)) (U : Nat → Prop) : (AObj.arr e sz rows).lo U = True := by simp [AObj.lo]

/-! appends -/
def rowsArr (sz z off len : Nat) : Option AObj → Option (List (List CV))
  | some (.arr _ z' rows) => if z = sz ∧ z' = sz ∧ off + len ≤ rows.length then some ((rows.drop off).take len) else none
  | _ => none
theorem rowsIn_lsl (t : List AV) (ob : Nat → Option AObj) (nx l z off len sz : Nat) : rowsIn ⟨t, ob, nx⟩ sz (.lsl l z off len) = rowsArr sz z off len (ob l) := by
  simp only [rowsIn]; unfold rowsArr; rfl
theorem rowsIn_c (nl f : Bool) (z sz : Nat) (rows : List (List CV)) : rowsIn s sz (.c (.sl nl f z rows)) = if z = sz then some rows else nilRows rows := _root_.id rfl
theorem nilRows_nil : nilRows [] = some [] := _root_.id rfl
theorem rowsArr_all (sz e n : Nat) (rows : List (List CV)) (h : n = rows.length) : rowsArr sz sz 0 n (some (.arr e sz rows)) = some rows := by
  subst h; simp [rowsArr]
def appL (l z e : Nat) (old new : List (List CV)) : Option AObj → Option (AV × Eff)
  | some (.arr e' _ _) => if e' = e then some (.lsl l z 0 (old ++ new).length, .app l (.arr e z (old ++ new))) else none
  | _ => none
def appX (s : AState) (nid e : Nat) (j : TI) (old new : List (List CV)) : AV → Option (AV × Eff)
  | .lsl l z off _ => if off = 0 ∧ l ≠ 0 then appL l z e old new (s.objs l) else none
  | .c (.sl nl full z rows) => if full = true then (if new.length = 0 then some (.c (.sl nl full z rows), .no) else
      if (old.all fun r => r.length == j.size) = true then some (.lsl nid j.size 0 (old ++ new).length, .new (.arr e j.size (old ++ new))) else none) else none
  | _ => none
def appIf : Bool → Option (AV × Eff) → Option (AV × Eff)
  | true, r => r
  | false, _ => none
def appR (s : AState) (nid e : Nat) (j : TI) (x : AV) : Option (List (List CV)) → Option (List (List CV)) → Option (AV × Eff)
  | some old, some new => if 0 < j.size ∧ (new.all fun r => r.length == j.size) = true then appIf (decide ((old.length + new.length) * j.bytes ≤ 140737488355328 ∧ old.length + new.length ≤ 9223372036854775807)) (appX s nid e j old new x) else none
  | _, _ => none
def appE (s : AState) (nid e : Nat) (x y : AV) : Option TI → Option (AV × Eff)
  | some j => appR s nid e j x (rowsIn s j.size x) (rowsIn s j.size y)
  | none => none
def appD (T : Tab) (s : AState) (nid : Nat) (x y : AV) : Option TI → Option (AV × Eff)
  | some ⟨.slice e, _, _, _⟩ => appE s nid e x y (T.get e)
  | _ => none
theorem aappend_eq (nid : Nat) (t : TypeId) (x y : AV) : aappend T s nid t x y = appD T s nid x y (T.get t) := by
  simp only [aappend, Tab.desc]
  cases T.get t with
  | none => rfl
  | some i =>
    obtain ⟨d, m, b, z⟩ := i
    cases d with
    | slice e =>
      simp only [appD]
      cases T.get e with
      | none => rfl
      | some j =>
        simp only [appE]
        cases rowsIn s j.size x with
        | none => rfl
        | some old =>
          cases rowsIn s j.size y with
          | none => rfl
          | some new =>
            simp only [appR]
            by_cases h1 : 0 < j.size ∧ (new.all fun r => r.length == j.size) = true
            · by_cases h2 : (old.length + new.length) * j.bytes ≤ 140737488355328 ∧ old.length + new.length ≤ 9223372036854775807
              · rw [if_pos ⟨h1.1, h1.2, h2.1, h2.2⟩, if_pos h1, decide_eq_true h2]
                simp only [appIf]
                cases x with
                | c y =>
                  cases y with
                  | sl nl full zz rows => simp only [appX, List.length_append]
                  | _ => rfl
                | lsl l zz off len => 
                  simp only [appX]
                  split
                  · cases s.objs l with
                    | none => rfl
                    | some o =>
                      cases o with
                      | box t cs => rfl
                      | arr e' sz' rs => simp only [appL, List.length_append]
                      | brr e' sz' rs => rfl
                  · rfl
                | _ => rfl
              · rw [if_neg (fun h => h2 ⟨h.2.2.1, h.2.2.2⟩), if_pos h1, decide_eq_false h2]
                rfl
            · rw [if_neg (fun h => h1 ⟨h.1, h.2.1⟩), if_neg h1]
    | _ => rfl
theorem z10 {b : Bool} {r : Option (AV × Eff)} (hb : b = true) (hk : Efx q P T ops rest dst K s r) : Efx q P T ops rest dst K s (appIf b r) := by
  subst hb; exact hk

theorem z11 {b : Bool} {r : Option (AV × Eff)} (hb : b = true) (hk : EfxD P T ops rest dst K s r) : EfxD P T ops rest dst K s (appIf b r) := by
  subst hb; exact hk

/-! regions that draw and write -/
def Ldk (ops : Array Oper) (K : AState → Prop) (s : AState) : Prop := loudOk ops (masks ops.toList []) s = true ∧ K s
theorem vc_of_loopW (hT : Tab.ok P T = true) {c : Code} {ι : Type} (I : ι → AState) (μ : ι → Nat) (i0 : ι) (h0 : Wk s (I i0)) (round : ∀ i, vc P T E c (athen (fun s' => ∃ i', Wk s' (I i') ∧ μ i' < μ i) Q) (I i)) : vc P T E (.loop c) Q s :=
  AWP.loopW I μ i0 h0 fun i => vc_sound hT c (round i)
def quietAll : List Oper → Bool
  | [] => true
  | o :: l => quietKind o.op && quietAll l
theorem z13 (hT : Tab.ok P T = true) (hm : P.follows .mixedOrders = true) {id : Nat} (hq : quietAll ops.toList = true) (hok : okDraw ops (masks ops.toList []) = true) (h : arun true P T ops ops.toList s (Q .normal)) : vc P T E (.region id ops true) Q s :=
  AWP.draw hT hm hok h
theorem z15 (h : loudOk ops (masks ops.toList []) s = true) (hk : K s) : Ldk ops K s := ⟨h, hk⟩
theorem z14 (hT : Tab.ok P T = true) (hm : P.follows .mixedOrders = true) {id : Nat} (hok : okDrawL ops (masks ops.toList []) = true) (h : arun true P T ops ops.toList s (Ldk ops (Q .normal))) : vc P T E (.region id ops true) Q s :=
  AWP.drawL hT hm hok h

/-! freezing -/
theorem frzVals_bsl (t : TypeId) (n : Nat) (ps : Array (Nat × Operand)) : frzVals s (.buildSlice t n ps) = ps.toList.map fun p => s.eval p.2 := _root_.id rfl
theorem frzVals_store (t : TypeId) (p x : Operand) : frzVals s (.store t p x) = [s.eval x] := _root_.id rfl
theorem aeff_conv (nid : Nat) (a b : TypeId) (x : Operand) : aeff T s nid (.convert a b x) = noE (aconv T a b (s.eval x)) := by
  have h : apure T s (.convert a b x) = (aconv T a b (s.eval x)) := _root_.id rfl
  rw [← h]; simp only [aeff]; cases apure T s (.convert a b x) <;> rfl
theorem aeff_arrP (nid : Nat) (t : TypeId) (x : Operand) : aeff T s nid (.sliceToArrayPointer t x) = arrPN T t (s.eval x) := by
  have h : apure T s (.sliceToArrayPointer t x) = (aarrP T t (s.eval x)) := _root_.id rfl
  unfold arrPN
  rw [← h]; simp only [aeff]; cases apure T s (.sliceToArrayPointer t x) <;> rfl
theorem frzVals_arrP (t : TypeId) (x : Operand) : frzVals s (.sliceToArrayPointer t x) = [s.eval x] := _root_.id rfl
def arrPX (rows : List (List CV)) : Option TI → Option (AV × Eff)
  | some ⟨.array n _, _, _, _⟩ => appIf (rows.all fun r => r.length == 1) (appIf (decide (0 < n)) (appIf (decide (n ≤ rows.length)) (some (.c (.rp ((List.range n).map fun j => (rows.getD j []).getD 0 default)), Eff.no))))
  | _ => none
theorem arrPN_eq (t : TypeId) (nl full : Bool) (rows : List (List CV)) : arrPN T t (.c (.sl nl full 1 rows)) = arrPX rows (T.get t) := by
  unfold arrPN aarrP Tab.desc
  simp only
  cases T.get t with
  | none => rfl
  | some ti =>
    obtain ⟨d, n, b, z⟩ := ti
    cases d with
    | array n e =>
      simp only [Option.map_some, arrPX]
      by_cases h1 : (rows.all fun r => r.length == 1) = true
      · by_cases h2 : 0 < n
        · by_cases h3 : n ≤ rows.length
          · rw [if_pos ⟨h1, h2, h3⟩, h1, decide_eq_true h2, decide_eq_true h3]; rfl
          · rw [if_neg (fun h => h3 h.2.2), h1, decide_eq_true h2, decide_eq_false h3]; rfl
        · rw [if_neg (fun h => h2 h.2.1), h1, decide_eq_false h2]; rfl
      · rw [if_neg (fun h => h1 h.1)]
        simp only [Bool.not_eq_true] at h1
        rw [h1]; rfl
    | _ => rfl
theorem arrPN_lsl (t : TypeId) (l sz o n : Nat) : arrPN T t (.lsl l sz o n) = none := _root_.id rfl
theorem frzVals_conv (a b : TypeId) (x : Operand) : frzVals s (.convert a b x) = [s.eval x] := _root_.id rfl
theorem frzL_nil : s.frzL [] = s := _root_.id rfl
theorem frzL_cons (t : List AV) (ob : Nat → Option AObj) (n l : Nat) (ls : List Nat) : AState.frzL ⟨t, ob, n⟩ (l :: ls) = (frzAt ⟨t, ob, n⟩ l (ob l)).frzL ls := _root_.id rfl
theorem frzAt_arr (t : List AV) (ob : Nat → Option AObj) (n l e sz : Nat) (rows : List (List CV)) (h : l ≠ 0) : frzAt ⟨t, ob, n⟩ l (some (.arr e sz rows)) = ⟨t.map (AV.frz l sz rows), upd (fun k => (ob k).map (AObj.frz l sz rows)) l none, n⟩ := if_neg h
theorem frzAt_none (l : Nat) : frzAt s l none = s := _root_.id rfl
theorem frzLsl_all (z n : Nat) (rows : List (List CV)) (h : n = rows.length) : frzLsl z 0 n z rows = .c (.sl true false z rows) := by
  subst h; simp [frzLsl]

theorem outO_tup (ts : List T1) (xs : List AV) : outO s (.tup ts) (some (.tup xs)) = (owns ts ≤ 1 ∧ outTs s (dropL s (ownL xs ts)) xs ts) := by
  simp [outO, outRV]
theorem owns_nil : owns [] = 0 := _root_.id rfl
theorem owns_c (y : CV) (ts : List T1) : owns (.c y :: ts) = owns ts := by simp [owns, T1.isOwn]
theorem owns_agg (cs : List CV) (ts : List T1) : owns (.agg cs :: ts) = owns ts := by simp [owns, T1.isOwn]
theorem owns_own (e sz : Nat) (rows : List (List CV)) (ts : List T1) : owns (.own e sz rows :: ts) = 1 + owns ts := by simp [owns, T1.isOwn]
theorem owns_ok : (1 + 0 ≤ 1) = True := by simp
theorem owns_ok0 : (0 ≤ 1) = True := by simp
theorem dropL_some (l : Nat) : dropL s (some l) = s.drop l := _root_.id rfl
theorem dropL_none : dropL s none = s := _root_.id rfl
theorem ownL_nil : ownL [] [] = none := _root_.id rfl
theorem ownL_lsl (l z o n : Nat) (xs : List AV) (e sz : Nat) (rows : List (List CV)) (ts : List T1) : ownL (.lsl l z o n :: xs) (.own e sz rows :: ts) = some l := _root_.id rfl
theorem ownL_c (x : AV) (xs : List AV) (y : CV) (ts : List T1) : ownL (x :: xs) (.c y :: ts) = ownL xs ts := by cases x <;> rfl
theorem ownL_agg (x : AV) (xs : List AV) (y : List CV) (ts : List T1) : ownL (x :: xs) (.agg y :: ts) = ownL xs ts := by cases x <;> rfl
theorem outTs_nil (s1 : AState) : outTs s s1 [] [] = True := _root_.id rfl
theorem outTs_c (s1 : AState) (x : AV) (xs : List AV) (y : CV) (ts : List T1) : outTs s s1 (x :: xs) (.c y :: ts) = (outT1 s1 x (.c y) ∧ outTs s s1 xs ts) := _root_.id rfl
theorem outTs_agg (s1 : AState) (x : AV) (xs : List AV) (y : List CV) (ts : List T1) : outTs s s1 (x :: xs) (.agg y :: ts) = (outT1 s1 x (.agg y) ∧ outTs s s1 xs ts) := _root_.id rfl
theorem outTs_own (s1 : AState) (x : AV) (xs : List AV) (e sz : Nat) (rows : List (List CV)) (ts : List T1) : outTs s s1 (x :: xs) (.own e sz rows :: ts) = (outOwn s x e sz rows ∧ outTs s s1 xs ts) := _root_.id rfl
theorem outOwn_lsl (l sz n e : Nat) (rows : List (List CV)) : outOwn s (.lsl l sz 0 n) e sz rows = (n = rows.length ∧ s.objs l = some (.arr e sz rows)) := by
  simp only [outOwn, eq_iff_iff]
  constructor
  · rintro ⟨l', h, h2⟩
    cases h
    exact ⟨rfl, h2⟩
  · rintro ⟨rfl, h2⟩
    exact ⟨l, rfl, h2⟩
theorem outT1_c (x y : CV) : outT1 s (.c x) (.c y) = (x = y) := by
  simp [outT1, snap1]
theorem outT1_agg (xs : List AV) (cs : List CV) : outT1 s (.agg xs) (.agg cs) = (snapL s 100 xs = some cs) := by
  simp [outT1]
theorem outT1_lsl (t : List AV) (ob : Nat → Option AObj) (n l sz off len : Nat) (y : CV) : outT1 ⟨t, ob, n⟩ (.lsl l sz off len) (.c y) = (snapArr sz off len (ob l) = some y) := by
  simp only [outT1, snap1]; unfold snapArr; rfl
theorem outO_lsl (t : List AV) (ob : Nat → Option AObj) (n l sz off len : Nat) (y : CV) : outO ⟨t, ob, n⟩ (.c y) (some (.lsl l sz off len)) = (snapArr sz off len (ob l) = some y) := by
  simp only [outO, outRV, snap1]; unfold snapArr; rfl
theorem rows_get {α : Type} [Inhabited α] {bs : List α} {f : α → List CV} {i : Nat} (h : i < bs.length) : (bs.map f)[i]? = some (f (bs.getD i default)) := by
  simp [h]
theorem take_next {α : Type} [Inhabited α] {bs : List α} {i : Nat} (h : i < bs.length) : bs.take (i + 1) = bs.take i ++ [bs.getD i default] := by
  rw [List.take_succ_eq_append_getElem h, List.getD_eq_getElem?_getD, List.getElem?_eq_getElem h, Option.getD_some]
theorem take_all {α : Type} {bs : List α} {i : Nat} (h : i ≤ bs.length) (h2 : ¬ i < bs.length) : bs.take i = bs := List.take_of_length_le (by omega)
theorem take_len {α : Type} {bs : List α} {i : Nat} (h : i ≤ bs.length) : (bs.take i).length = i := by simp; omega
theorem map_snoc {α β : Type} (f : α → β) (l : List α) (x : α) : l.map f ++ [f x] = (l ++ [x]).map f := by simp

theorem abuiltin_min (ts : List TypeId) (x : AV) (xs : List AV) : abuiltin T s .min ts (x :: xs) = afold amin2 x xs := _root_.id rfl
theorem abuiltin_max (ts : List TypeId) (x : AV) (xs : List AV) : abuiltin T s .max ts (x :: xs) = afold amax2 x xs := _root_.id rfl
theorem amin2_i (k j : IntKind) (a b : Int) : amin2 (.c (.v (.int k a))) (.c (.v (.int j b))) = some (.c (.v (.int k (min a b)))) := by
  simp only [amin2]
  split
  · rw [Int.min_eq_right (by omega)]
  · rw [Int.min_eq_left (by omega)]
theorem amax2_i (k j : IntKind) (a b : Int) : amax2 (.c (.v (.int k a))) (.c (.v (.int j b))) = some (.c (.v (.int k (max a b)))) := by
  simp only [amax2]
  split
  · rw [Int.max_eq_right (by omega)]
  · rw [Int.max_eq_left (by omega)]

theorem abin_sadd (t : TypeId) (a b : ByteArray) : abin T s .add t (.c (.v (.string a))) (.c (.v (.string b))) = if 9223372036854775807 < a.size + b.size then none else some (.c (.v (.string (a ++ b)))) := by
  simp only [abin, strBin]
  by_cases h : 9223372036854775807 < a.size + b.size
  · rw [if_pos h, if_pos (by omega)]; rfl
  · rw [if_neg h, if_neg (by omega)]; rfl
theorem bsize0 : ByteArray.size ⟨#[]⟩ = 0 := _root_.id rfl
theorem bsize1 (x : UInt8) : ByteArray.size ⟨#[x]⟩ = 1 := _root_.id rfl
theorem bsize_append (a b : ByteArray) : (a ++ b).size = a.size + b.size := by simp
theorem z18 {nid : Nat} {f : FuncId} {l : Nat} {rest : List AV} {K : AV → AState → Prop} (h : ∃ t cs, s.objs l = some (.box t cs) ∧ ∃ cells, toCVs cs = some cells ∧ rest.all AV.closed = true ∧ ∃ out r, Ret P f (some (t, cells)) rest out r ∧ K (r.av nid) ((s.setBox l t out).ret nid r)) : acall false P s nid f (.ref l 0 :: rest) K := by
  obtain ⟨t, cs, ho, cells, hc, hcl, out, r, hR, hk⟩ := h
  exact acall_io ho hc hcl hR hk
theorem snap_fn {f : FuncId} {caps : List AV} {vs : List CV} (h : snapL s 99 caps = some vs) : snapA s (.fn f caps) = some (.c (.fn f vs)) := by
  simp only [snapA, snap1, h]
theorem snapL_nil' {k : Nat} : snapL s (k + 1) [] = some [] := _root_.id rfl
theorem snapL_cons' {k : Nat} {x : AV} {xs : List AV} {y : CV} {ys : List CV} (h1 : snap1 s k x = some y) (h2 : snapL s k xs = some ys) : snapL s (k + 1) (x :: xs) = some (y :: ys) := by
  simp only [snapL, h1, h2]
theorem snap1_c {k : Nat} (y : CV) : snap1 s (k + 1) (.c y) = some y := by simp only [snap1]
theorem snap1_ref {k l : Nat} {t : TypeId} {cells : List AV} {vs : List CV} (ho : s.objs l = some (.box t cells)) (h : snapL s k cells = some vs) : snap1 s (k + 1) (.ref l 0) = some (.rp vs) := by
  simp only [snap1, ho, List.drop_zero, h]
theorem snap1_lsl {k l sz n e : Nat} {rows : List (List CV)} (ho : s.objs l = some (.arr e sz rows)) (hn : n = rows.length) : snap1 s (k + 1) (.lsl l sz 0 n) = some (.sl false false sz rows) := by
  subst hn
  simp [snap1, ho]
theorem snapA_ref {l : Nat} {t : TypeId} {cells : List AV} {vs : List CV} (ho : s.objs l = some (.box t cells)) (h : snapL s 99 cells = some vs) : snapA s (.ref l 0) = some (.c (.rp vs)) := by
  simp only [snapA, snap1, ho, List.drop_zero, h]
theorem z25 {f : FuncId} {a b ta tb l sz n e : Nat} {rows : List (List CV)} {y : CV} (h1 : s.objs a = some (.box ta [.lsl l sz 0 n])) (h2 : s.objs b = some (.box tb [.c y])) (h3 : s.objs l = some (.arr e sz rows)) (hn : n = rows.length) : snapA s (.fn f [.ref a 0, .ref b 0]) = some (.c (.fn f [.rp [.sl false false sz rows], .rp [y]])) := by
  subst hn
  simp [snapA, snap1, snapL, h1, h2, h3]
theorem z27 {f : FuncId} {a ta : Nat} {y : CV} (h1 : s.objs a = some (.box ta [.c y])) : snapA s (.fn f [.ref a 0]) = some (.c (.fn f [.rp [y]])) := by
  simp [snapA, snap1, snapL, h1]
theorem z26 {f : FuncId} {a ta l sz n e : Nat} {rows : List (List CV)} (h1 : s.objs a = some (.box ta [.lsl l sz 0 n])) (h3 : s.objs l = some (.arr e sz rows)) (hn : n = rows.length) : snapA s (.fn f [.ref a 0]) = some (.c (.fn f [.rp [.sl false false sz rows]])) := by
  subst hn
  simp [snapA, snap1, snapL, h1, h3]
theorem objLo_brr (e sz : Nat) (rows : List (List AV)) (U : Nat → Prop) : (AObj.brr e sz rows).lo U = ∀ row ∈ rows, ∀ x ∈ row, x.lo U := _root_.id rfl
theorem z19 {nid : Nat} {f : FuncId} {l sz n : Nat} {rest : List AV} {K : AV → AState → Prop} (h : ∃ e rows, s.objs l = some (.arr e sz rows) ∧ ∃ args, snapArgs (s.drop l) rest = some args ∧ n = rows.length ∧ ∃ rows' r, RetA P f e sz rows args rows' r ∧ r.plain = true ∧ (rows'.all fun x => x.all CV.plain) = true ∧ K (r.av nid) ((s.setArr l e sz rows').ret nid r)) : acall false P s nid f (.lsl l sz 0 n :: rest) K := by
  obtain ⟨e, rows, ho, args, hs, hn, rows', r, hR, hr, hr', hk⟩ := h
  exact acall_arr ho hn hs hR hr hr' hk

/-! a slice whose elements the function writes -/
def ioA (e sz : Nat) (rows' : List (List CV)) (o : Option AObj) : Prop := o = some (.arr e sz rows')
theorem fpostA_ret (rs : List ResultVar) (e sz : Nat) (rows' : List (List CV)) (r : RV) : fpostA T rs e sz rows' r .ret s = (outO (s.drop 0) r (aresults T s rs) ∧ ioA e sz rows' (s.objs 0)) := by
  simp only [fpostA, ioA]
  cases aresults T s rs <;> simp [outO]
theorem fpostA_normal (rs : List ResultVar) (e sz : Nat) (rows' : List (List CV)) (r : RV) : fpostA T rs e sz rows' r .normal s = (outO (s.drop 0) r (aresults T s rs) ∧ ioA e sz rows' (s.objs 0)) := by
  simp only [fpostA, ioA]
  cases aresults T s rs <;> simp [outO]
theorem ioA_arr (e sz : Nat) (rows' : List (List CV)) (e1 sz1 : Nat) (rows : List (List CV)) : ioA e sz rows' (some (.arr e1 sz1 rows)) = (e1 = e ∧ sz1 = sz ∧ rows = rows') := by
  simp [ioA]
/-! objects laid open -/
theorem fzL_nil (xs : List AV) : fzL s xs [] = (s, xs) := _root_.id rfl
theorem fzL_cons (t : List AV) (ob : Nat → Option AObj) (n : Nat) (xs : List AV) (l : Nat) (ls : List Nat) : fzL ⟨t, ob, n⟩ xs (l :: ls) = fzL (fzAt ⟨t, ob, n⟩ l (ob l)) (fzVs l xs (ob l)) ls := _root_.id rfl
theorem fzAt_some (t : List AV) (ob : Nat → Option AObj) (n l : Nat) (o : AObj) (h : l ≠ 0) : fzAt ⟨t, ob, n⟩ l (some o) = ⟨t.map (AV.fz l o), upd (fun k => (ob k).map (AObj.fz l o)) l none, n⟩ := by simp [fzAt, h]
theorem fzVs_some (l : Nat) (xs : List AV) (o : AObj) (h : l ≠ 0) : fzVs l xs (some o) = xs.map (AV.fz l o) := by simp [fzVs, h]
theorem fz_junk (l : Nat) (o : AObj) : AV.fz l o .junk = .junk := by simp only [AV.fz]
theorem fz_c (l : Nat) (o : AObj) (x : CV) : AV.fz l o (.c x) = .c x := by simp only [AV.fz]
theorem fz_agg (l : Nat) (o : AObj) (cs : List AV) : AV.fz l o (.agg cs) = .agg (cs.map (AV.fz l o)) := by simp only [AV.fz]
theorem fz_tup (l : Nat) (o : AObj) (cs : List AV) : AV.fz l o (.tup cs) = .tup (cs.map (AV.fz l o)) := by simp only [AV.fz]
theorem fz_fn (l : Nat) (o : AObj) (f : FuncId) (cs : List AV) : AV.fz l o (.fn f cs) = .fn f (cs.map (AV.fz l o)) := by simp only [AV.fz]
theorem fz_ref (l : Nat) (o : AObj) (k off : Nat) : AV.fz l o (.ref k off) = if k = l then fzRef off o else .ref k off := by simp only [AV.fz]
theorem fz_eref (l : Nat) (o : AObj) (k z i off : Nat) : AV.fz l o (.eref k z i off) = if k = l then fzEref z i off o else .eref k z i off := by simp only [AV.fz]
theorem fz_lsl (l : Nat) (o : AObj) (k z off n : Nat) : AV.fz l o (.lsl k z off n) = if k = l then fzLsl z off n o else .lsl k z off n := by simp only [AV.fz]
theorem fzRef_box (off : Nat) (t : TypeId) (cells : List AV) (cs : List CV) (h : toCVs cells = some cs) : fzRef off (.box t cells) = .c (.rp (cs.drop off)) := by simp [fzRef, h]
theorem fzLsl_arr (z off n e sz : Nat) (rows : List (List CV)) : fzLsl z off n (.arr e sz rows) = frzLsl z off n sz rows := _root_.id rfl
theorem fzO_box (l : Nat) (o : AObj) (t : TypeId) (cells : List AV) : AObj.fz l o (.box t cells) = .box t (cells.map (AV.fz l o)) := _root_.id rfl
theorem fzO_arr (l : Nat) (o : AObj) (e sz : Nat) (rows : List (List CV)) : AObj.fz l o (.arr e sz rows) = .arr e sz rows := _root_.id rfl
theorem z20 (ls : List Nat) {P : Program} {nid : Nat} {f : FuncId} {xs : List AV} {K : AV → AState → Prop} (h : ∃ p, fzL s xs ls = p ∧ ∃ r, Ret P f none p.2 [] r ∧ p.2.all okArg = true ∧ K (r.av nid) (p.1.ret nid r)) : acall false P s nid f xs K := by
  obtain ⟨⟨s', args⟩, hf, r, h1, h2, h3⟩ := h
  exact acall_fz ls hf h2 h1 h3
end

attribute [push_cast] aslice_eq slcT slcE slcX_c slcX_lsl slcS slcC_if slcC2_if slcL_if slcL2_if slcB_if slcB2_if slcC_some slcC2_some slcL_some slcL2_some slcB_some slcB2_some bound_none bound_int abin_sadd bsize0 bsize1 bsize_append fpostA_ret fpostA_normal ioA_arr startA owns_nil owns_c owns_agg owns_own owns_ok owns_ok0 dropL_some dropL_none ownL_nil ownL_lsl ownL_c ownL_agg outTs_c outTs_agg outTs_own outOwn_lsl fpost_io_ret fpost_io_normal ioO drop_mk bldC bldI abuild_eq allIn placeOf List.all_cons List.all_nil Step_appendD EfxD_some movV_app movV_no movV_new movS_app movS_no movS_new abuiltin_min abuiltin_max amin2_i amax2_i afold outO_tup outTs_nil outT1_c outT1_agg outT1_lsl outO_lsl EfxF_some EfxF_none aeff_bsl bslT bslJ bslCells bslVs afill zeros rowsOf rowsIn_lsl rowsIn_c nilRows_nil rowsArr_all appL appX appR appE appD aappend_eq frzVals_bsl frzVals_store frzVals_conv aeff_conv Step_arrP frzVals_arrP aeff_arrP arrPN_eq arrPN_lsl arrPX frzL_nil frzL_cons frzAt_arr frzAt_none frzLsl_all lslsV lslsC AV.frz AObj.frz AV.kill AObj.kill
attribute [push_cast] fzL_nil fzL_cons fzAt_some fzVs_some AV.fz AObj.fz fzRef fzEref fzLsl_arr toCVs
attribute [push_cast] or_self true_or or_true false_or or_false Nat.left_eq_add Nat.add_eq_left Nat.succ_eq_add_one decide_true decide_false true_and and_true ne_eq not_true_eq_false not_false_eq_true
end Go.Proofs.Ytnnpjblpiecfdaa.Fw
