/- The operations that make or change memory. -/
import Derived.Test.YtnnpjblpiecfdaaFwI
import Derived.Laws.CopyRow
namespace Go.Proofs.Ytnnpjblpiecfdaa.Fw
open Go.RowKit

def AV.one (s : AState) : AV → Bool
  | .c _ => true
  | .fn _ _ => true
  | .ref l _ => s.alive l
  | .eref l _ _ _ => s.alive l
  | .lsl l _ _ _ => s.alive l
  | _ => false

def writeAt (s : AState) (cs : List AV) : AV → Option (Nat × AObj)
  | .ref l off => match s.objs l with
    | some (.box t cells) => if off + cs.length ≤ cells.length then some (l, .box t (splice cells off cs)) else none
    | _ => none
  | .eref l sz i off => match s.objs l with
    | some (.arr e sz' rows) => if sz = sz' then (match rows[i]? with
      | some row => if off + cs.length ≤ sz then (match toCVs cs with
        | some vs => some (l, .arr e sz (rows.set i (row.take off ++ (vs ++ row.drop (off + vs.length)))))
        | none => none) else none
      | none => none) else none
    | some (.brr e sz' rows) => if sz = sz' then (match rows[i]? with
      | some row => if off + cs.length ≤ sz then some (l, .brr e sz (rows.set i (row.take off ++ (cs ++ row.drop (off + cs.length))))) else none
      | none => none) else none
    | _ => none
  | _ => none

def nilRows : List (List CV) → Option (List (List CV))
  | [] => some []
  | _ => none
/-- The rows that a slice holds. -/
def rowsIn (s : AState) (sz : Nat) : AV → Option (List (List CV))
  | .c (.sl _ _ sz' rows) => if sz' = sz then some rows else nilRows rows
  | .lsl l sz' off len => match s.objs l with
    | some (.arr _ z rows) => if sz' = sz ∧ z = sz ∧ off + len ≤ rows.length then some ((rows.drop off).take len) else none
    | _ => none
  | _ => none

def aappend (T : Tab) (s : AState) (nid : Nat) (t : TypeId) (x y : AV) : Option (AV × Eff) :=
  match T.desc t with
  | some (.slice e) => match T.get e with
    | some j => match rowsIn s j.size x, rowsIn s j.size y with
      | some old, some new => if 0 < j.size ∧ (new.all fun r => r.length == j.size) = true ∧ (old.length + new.length) * j.bytes ≤ 140737488355328 ∧ old.length + new.length ≤ 9223372036854775807 then (match x with
        | .lsl l sz off _ => if off = 0 ∧ l ≠ 0 then (match s.objs l with
          | some (.arr e' _ _) => if e' = e then some (.lsl l sz 0 (old.length + new.length), .app l (.arr e sz (old ++ new))) else none
          | _ => none) else none
        | .c (.sl _ full _ _) => if full = true then (if new.length = 0 then some (x, .no) else
            if (old.all fun r => r.length == j.size) = true then some (.lsl nid j.size 0 (old.length + new.length), .new (.arr e j.size (old ++ new))) else none) else none
        | _ => none) else none
      | _, _ => none
    | none => none
  | _ => none

def aeff (T : Tab) (s : AState) (nid : Nat) : Op → Option (AV × Eff)
  | .alloc t => match T.get t with
    | some i => some (.ref nid 0, .new (.box t (i.zero.map .c)))
    | none => none
  | .box t x => match cellsOf s (s.eval x) with
    | some cs => some (.ref nid 0, .new (.box t cs))
    | none => none
  | .build t parts => match abuild T s t (parts.toList.map fun p => (p.1, s.eval p.2)) with
    | some x => some (x, .no)
    | none => none
  | .buildSlice t len parts => match T.desc t with
    | some (.slice e) => match T.get e with
      | some j => if 0 < j.size ∧ len * j.size ≤ 16777216 ∧ j.zero.length = j.size then (match afill s (fun i => some (i * j.size, j.size)) (zeros len j.zero) (parts.toList.map fun p => (p.1, s.eval p.2)) with
        | some cells => match toCVs cells with
          | some vs => some (.lsl nid j.size 0 len, .new (.arr e j.size (rowsOf j.size len vs)))
          | none => none
        | none => none) else none
      | none => none
    | _ => none
  | .makeSlice t len cap => match T.desc t with
    | some (.slice e) => match T.get e with
      | some j => match s.eval len, s.eval cap with
        | .c (.v (.int _ l)), .c (.v (.int _ c)) => if 0 < j.size ∧ j.zero.length = j.size ∧ 0 ≤ l ∧ l ≤ c ∧ (j.bytes : Int) * c ≤ 140737488355328 ∧ c ≤ 9223372036854775807 then
            some (.lsl nid j.size 0 l.toNat, .new (.arr e j.size (List.replicate l.toNat j.zero))) else none
        | _, _ => none
      | none => none
    | _ => none
  | .store t p x => match T.get t with
    | some i => match cellsOf s (s.eval x) with
      | some cs => if cs.length = i.size ∧ (cs.all fun y => y.one s) = true then (match writeAt s cs (s.eval p) with
        | some (l, o) => some (.junk, .put l o)
        | none => none) else none
      | none => none
    | none => none
  | .call c => match c.callee with
    | .builtin .append => match c.argTypes.toList, c.args.toList with
      | [t, u], [x, y] => if u = t then aappend T s nid t (s.eval x) (s.eval y) else none
      | _, _ => none
    | .builtin b => match abuiltin T s b c.argTypes.toList (c.args.toList.map s.eval) with
      | some x => some (x, .no)
      | none => none
    | _ => none
  | op => match apure T s op with
    | some x => some (x, .no)
    | none => none

section
variable {P : Program} {T : Tab} {E : Entry} {s : AState} {a : Act} {w : World} {F : Nat → Prop} {B : Beta} {U : Nat → Prop}

/-- The operation yields a value (or nothing), and a world, that are so. -/
def Does (P : Program) (o : Oper) (a : Act) (w : World) (R : Value → World → Prop) : Prop :=
  ∃ v w', R v w' ∧ ((execOp a.eval o).run P w = .ok (.value v) w' ∨ ((execOp a.eval o).run P w = .ok .skip w' ∧ v = undef))

theorem Does.wp {o : Oper} {R : Value → World → Prop} {next : Act → World → Prop} {Q : Exit → Act → World → Prop} (h : Does P o a w R) (hn : ∀ v w', R v w' → next (a.put o.dst v) w') : o.wp P a w next Q := by
  obtain ⟨v, w', hR, h1 | ⟨h1, h2⟩⟩ := h
  · unfold Oper.wp
    rw [h1]
    exact hn v w' hR
  · unfold Oper.wp
    rw [h1]
    subst h2
    exact hn _ w' hR

/-- What holds behind an operation. -/
def After (E : Entry) (s : AState) (a : Act) (U : Nat → Prop) (x : AV) (v : Value) (w' : World) : Prop := ∃ F B, RelB E s a w' F B U ∧ ARep w' F B v x ∧ x.lo U

theorem Does.mk {o : Oper} {v : Value} {w' : World} {R : Value → World → Prop} (h : (execOp a.eval o).run P w = .ok (.value v) w') (hR : R v w') : Does P o a w R := ⟨v, w', hR, .inl h⟩

theorem lo_or {x : AV} {nid : Nat} (h : x.lo U) : x.lo (fun l => U l ∨ l = nid) := AV.lo_mono (fun _ h => .inl h) x h

theorem RelB.more (h : RelB E s a w F B U) (nid : Nat) : RelB E s a w F B (fun l => U l ∨ l = nid) :=
  { h with wfT := fun x hx => lo_or (h.wfT x hx), wfO := fun l o ho => ⟨.inl (h.wfO l o ho).1, AObj.lo_mono (fun _ h => .inl h) (h.wfO l o ho).2⟩, anchor := fun p hp => ⟨.inl (h.anchor p hp).1, (h.anchor p hp).2⟩ }

theorem after_no (h : RelB E s a w F B U) {nid : Nat} {x : AV} {v : Value} (hx : ARep w F B v x) (hlo : x.lo U) : After E (s.eff nid .no) a (fun l => U l ∨ l = nid) x v w :=
  ⟨F, B, h.more nid, hx, lo_or hlo⟩

theorem after_box (h : RelB E s a w F B U) {nid : Nat} (hn : ¬ U nid) {C : Array Value} {cs : List AV} {t : TypeId} (hC : Cells w F B C cs) (hlo : ∀ y ∈ cs, y.lo U) :
    After E (s.eff nid (.new (.box t cs))) a (fun l => U l ∨ l = nid) (.ref nid 0) (.pointer (some ⟨w.heap.size, 0, none⟩)) (w.alloc (.cells C t)) := by
  refine ⟨F, _, h.new (n := 1) hn (C := C) (t := t) ?_ hlo, .ref fun b n hb => ?_, by simp [AV.lo]⟩
  · exact ⟨C, heap_alloc_new w _, hC.1, fun j x v hx hv => (hC.2 j x v hx hv).keep' (fun _ h => h) (fun b hb => Below.heap_alloc w _ b (h.flt b hb))⟩
  · simp only [if_true, Option.some.injEq, Prod.mk.injEq] at hb
    rw [hb.1]

theorem after_arr (h : RelB E s a w F B U) {nid : Nat} (hn : ¬ U nid) {C : Array Value} {e : TypeId} {sz n len : Nat} {rows : List (List CV)} (hs : C.size = n * sz) (hr : rows.length = len) (hln : len ≤ n) (hmx : n ≤ maxLen)
    (hC : ∀ i row, rows[i]? = some row → row.length = sz ∧ ∀ (j : Nat) x v, row[j]? = some x → C[i * sz + j]? = some v → CRep w F v x) :
    After E (s.eff nid (.new (.arr e sz rows))) a (fun l => U l ∨ l = nid) (.lsl nid sz 0 len) (.slice (some ⟨w.heap.size, 0, none⟩) len n) (w.alloc (.cells C e)) := by
  refine ⟨F, _, h.new (n := n) hn (C := C) (t := e) ?_ (by trivial), .lsl fun b m hb => ?_, by simp [AV.lo]⟩
  · exact ⟨C, heap_alloc_new w _, hs, by omega, hmx, fun i row hrow => ⟨(hC i row hrow).1, fun j x v hx hv => ((hC i row hrow).2 j x v hx hv).keep (fun _ h => h) (fun b hb => Below.heap_alloc w _ b (h.flt b hb))⟩⟩
  · simp only [if_true, Option.some.injEq, Prod.mk.injEq] at hb
    obtain ⟨rfl, rfl⟩ := hb
    exact ⟨by omega, _, by rw [Nat.sub_zero], fun _ => by rw [Nat.zero_mul]⟩

theorem toCVs_some : ∀ {l : List AV} {r : List CV}, toCVs l = some r → l = r.map .c
  | [], r, h => by simp only [toCVs, Option.some.injEq] at h; subst h; rfl
  | .c x :: l, r, h => by
    simp only [toCVs] at h
    split at h
    · rename_i r' hr'
      cases h
      rw [toCVs_some hr']
      rfl
    · cases h
  | .junk :: _, _, h => by simp [toCVs] at h
  | .agg _ :: _, _, h => by simp [toCVs] at h
  | .tup _ :: _, _, h => by simp [toCVs] at h
  | .ref _ _ :: _, _, h => by simp [toCVs] at h
  | .eref _ _ _ _ :: _, _, h => by simp [toCVs] at h
  | .lsl _ _ _ _ :: _, _, h => by simp [toCVs] at h
  | .fn _ _ :: _, _, h => by simp [toCVs] at h

theorem rowsOf_spec (sz : Nat) : ∀ (n : Nat) (l : List CV), l.length = n * sz → (rowsOf sz n l).length = n ∧ ∀ i row, (rowsOf sz n l)[i]? = some row → row.length = sz ∧ ∀ (j : Nat), j < sz → row[j]? = l[i * sz + j]?
  | 0, l, _ => ⟨rfl, fun i row h => by simp [rowsOf] at h⟩
  | n + 1, l, hl => by
    rw [Nat.add_mul] at hl
    obtain ⟨h1, h2⟩ := rowsOf_spec sz n (l.drop sz) (by rw [List.length_drop]; omega)
    refine ⟨by simp [rowsOf, h1], fun i row h => ?_⟩
    simp only [rowsOf] at h
    cases i with
    | zero =>
      simp only [List.getElem?_cons_zero, Option.some.injEq] at h
      subst h
      refine ⟨by rw [List.length_take]; omega, fun j hj => ?_⟩
      rw [List.getElem?_take, if_pos hj, Nat.zero_mul, Nat.zero_add]
    | succ i =>
      obtain ⟨h3, h4⟩ := h2 i row (by simpa using h)
      refine ⟨h3, fun j hj => ?_⟩
      rw [h4 j hj, List.getElem?_drop, Nat.add_mul]
      congr 1
      omega

theorem zeros_spec (sz : Nat) (z : List CV) (hz : z.length = sz) : ∀ (n : Nat), (zeros n z).length = n * sz ∧ ∀ (k : Nat), k < n * sz → (zeros n z)[k]? = (z[k % sz]?).map .c
  | 0 => ⟨by simp [zeros], fun k h => by omega⟩
  | n + 1 => by
    obtain ⟨h1, h2⟩ := zeros_spec sz z hz n
    rw [Nat.add_mul]
    refine ⟨by simp only [zeros, List.length_append, List.length_map, h1, hz]; omega, fun k hk => ?_⟩
    simp only [zeros]
    by_cases hlt : k < sz
    · rw [List.getElem?_append_left (by simpa [hz] using hlt), List.getElem?_map, Nat.mod_eq_of_lt hlt]
    · rw [List.getElem?_append_right (by simp only [List.length_map]; omega), List.length_map, hz, h2 _ (by omega), ← Nat.mod_eq_sub_mod (show k ≥ sz by omega)]

theorem zeros_lo (n : Nat) (z : List CV) : ∀ y ∈ zeros n z, y.lo U := by
  induction n with
  | zero => intro y hy; simp [zeros] at hy
  | succ n ih =>
    intro y hy
    simp only [zeros, List.mem_append] at hy
    rcases hy with hy | hy
    · obtain ⟨x, _, rfl⟩ := List.mem_map.1 hy
      simp only [AV.lo]
    · exact ih y hy

theorem map_lo (z : List CV) : ∀ y ∈ z.map AV.c, y.lo U := by
  intro y hy
  obtain ⟨x, _, rfl⟩ := List.mem_map.1 hy
  simp only [AV.lo]

/-- The zero cells of a type, once or many times. -/
theorem zero_cells (hT : Tab.ok P T = true) {t : TypeId} {i : TI} (ht : T.get t = some i) : ∃ info z, P.info? t = some info ∧ info.size = i.size ∧ info.bytes = i.bytes ∧ info.zero = some z ∧ z.cells.size = i.zero.length ∧
    ∀ (k : Nat) x v, i.zero[k]? = some x → z.cells[k]? = some v → CRep w F v x := by
  obtain ⟨info, z, h1, h2, h3, h4, h5⟩ := (Tab.get_spec hT ht).info
  obtain ⟨h6, h7⟩ := zero_rep (w := w) (F := F) h5
  exact ⟨info, z, h1, h2, h3, h4, by simpa using h6, fun k x v hx hv => h7 k x v hx (by simpa using hv)⟩

theorem parts_rep (h : RelB E s a w F B U) (parts : Array (Nat × Operand)) : (parts.map fun (p : Nat × Operand) => (p.1, a.eval p.2)).toList.length = (parts.toList.map fun p => (p.1, s.eval p.2)).length ∧
    (∀ (i : Nat) p q, (parts.toList.map fun p => (p.1, s.eval p.2))[i]? = some p → (parts.map fun (p : Nat × Operand) => (p.1, a.eval p.2)).toList[i]? = some q → q.1 = p.1 ∧ ARep w F B q.2 p.2) ∧
    (∀ p ∈ (parts.toList.map fun p => (p.1, s.eval p.2)), p.2.lo U) := by
  refine ⟨by simp, fun i p q hp hq => ?_, fun p hp => ?_⟩
  · simp only [List.getElem?_map, Option.map_eq_some_iff] at hp
    obtain ⟨y, hy, rfl⟩ := hp
    simp only [Array.toList_map, List.getElem?_map, hy, Option.map_some, Option.some.injEq] at hq
    subst hq
    exact ⟨rfl, eval_rep h y.2⟩
  · obtain ⟨y, _, rfl⟩ := List.mem_map.1 hp
    exact eval_lo h y.2

theorem alloc_sound (hT : Tab.ok P T = true) (h : RelB E s a w F B U) {nid : Nat} (hn : ¬ U nid) {o : Oper} {t : TypeId} {i : TI} (ho : o.op = .alloc t) (ht : T.get t = some i) :
    Does P o a w (After E (s.eff nid (.new (.box t (i.zero.map .c)))) a (fun l => U l ∨ l = nid) (.ref nid 0)) := by
  obtain ⟨info, z, h1, h2, h3, h4, h5, h6⟩ := zero_cells (w := w) (F := F) hT ht
  refine Does.mk (v := .pointer (some ⟨w.heap.size, 0, none⟩)) (w' := w.alloc (.cells z.cells t)) ?_ (after_box h hn ⟨by simpa using h5, fun k x v hx hv => ?_⟩ (map_lo _))
  · simp [execOp, ho, Instr.alloc, zeroValue, typeInfo, h1, h4, newVar, newRow]
  · simp only [List.getElem?_map, Option.map_eq_some_iff] at hx
    obtain ⟨y, hy, rfl⟩ := hx
    exact .c (h6 k y v hy hv)

theorem box_sound (h : RelB E s a w F B U) {nid : Nat} (hn : ¬ U nid) {o : Oper} {t : TypeId} {x : Operand} {cs : List AV} (ho : o.op = .box t x) (hc : cellsOf s (s.eval x) = some cs) :
    Does P o a w (After E (s.eff nid (.new (.box t cs))) a (fun l => U l ∨ l = nid) (.ref nid 0)) := by
  obtain ⟨h1, h2⟩ := cells_rep h (eval_rep h x) (eval_lo h x) hc
  refine Does.mk (v := .pointer (some ⟨w.heap.size, 0, none⟩)) (w' := w.alloc (.cells (a.eval x).cells t)) ?_ (after_box h hn h1 h2)
  simp [execOp, ho, Instr.box, newVar, newRow]

theorem place_struct (hT : Tab.ok P T = true) : ∀ (fields : List Field) (fs : List (TypeId × Nat)), fields.map (fun f => (f.type, f.offset)) = fs → (fs.all fun f => (T.get f.1).isSome) = true →
    ∃ places, fields.mapM (fun f => (P.info? f.type).map fun i => (f.offset, i.size)) = some places ∧ ∀ (k : Nat) ft off j, fs[k]? = some (ft, off) → T.get ft = some j → places[k]? = some (off, j.size)
  | [], fs, h, _ => by
    subst h
    exact ⟨[], rfl, fun k ft off j hk => by simp at hk⟩
  | f :: fields, fs, h, ha => by
    subst h
    simp only [List.map_cons, List.all_cons, Bool.and_eq_true] at ha
    obtain ⟨places, h1, h2⟩ := place_struct hT fields _ rfl ha.2
    obtain ⟨j0, hj0⟩ := Option.isSome_iff_exists.1 ha.1
    obtain ⟨info, hi, hs⟩ := get_info hT hj0
    refine ⟨(f.offset, info.size) :: places, by simp [List.mapM_cons, hi, h1], fun k ft off j hk hj => ?_⟩
    cases k with
    | zero =>
      simp only [List.map_cons, List.getElem?_cons_zero, Option.some.injEq, Prod.mk.injEq] at hk
      obtain ⟨rfl, rfl⟩ := hk
      rw [hj0] at hj; cases hj
      rw [hs]; rfl
    | succ k => exact h2 k ft off j (by simpa using hk) hj

theorem build_sound (hT : Tab.ok P T = true) (h : RelB E s a w F B U) {t : TypeId} {parts : Array (Nat × Operand)} {x : AV} (he : abuild T s t (parts.toList.map fun p => (p.1, s.eval p.2)) = some x) :
    Yields P U w F B (Instr.build t (parts.map fun p => (p.1, a.eval p.2))) x := by
  unfold abuild at he
  split at he
  · rename_i i hi
    split at he
    · rename_i hall
      split at he
      · rename_i cells hc
        cases he
        obtain ⟨info, z, h1, h2, h3, h4, h5, h6⟩ := zero_cells (w := w) (F := F) hT hi
        obtain ⟨p1, p2, p3⟩ := parts_rep h parts
        have hz : Cells w F B z.cells (i.zero.map .c) := by
          refine ⟨by simpa using h5, fun k x v hx hv => ?_⟩
          simp only [List.getElem?_map, Option.map_eq_some_iff] at hx
          obtain ⟨y, hy, rfl⟩ := hx
          exact .c (h6 k y v hy hv)
        have key : ∀ place', (∀ k p, placeOf T i.d k = some p → place' k = some p) → ∃ C', Instr.fill place' z.cells (parts.map fun (p : Nat × Operand) => (p.1, a.eval p.2)).toList = some C' ∧ Cells w F B C' cells ∧ ∀ y ∈ cells, y.lo U := by
          intro place' hp
          obtain ⟨C', q1, q2, _, q3⟩ := fill_sound h hp _ _ _ _ _ hc p1 p2 p3 (map_lo _) hz
          exact ⟨C', q1, q2, q3⟩
        cases hd : i.d with
        | struct fs =>
          rw [hd] at hall key
          obtain ⟨fields, hu, hfs⟩ := desc_struct hT (t := t) (fs := fs) (by unfold Tab.desc; rw [hi, ← hd])
          obtain ⟨places, hp1, hp2⟩ := place_struct hT fields.toList fs hfs hall
          obtain ⟨C', q1, q2, q3⟩ := key (places.toArray[·]?) (by
            intro k p hk
            simp only [placeOf] at hk
            split at hk
            · rename_i ft off hk'
              split at hk
              · rename_i j hj
                cases hk
                simpa using hp2 k ft off j hk' hj
              · cases hk
            · cases hk)
          refine ⟨.agg C', run_build w t _ C' ?_, .agg q2.1 q2.2, by simp only [AV.lo]; exact q3⟩
          simp only [Program.built, h1, hu, h4, hp1]
          exact q1
        | array n e =>
          rw [hd] at hall key
          have hu := desc_array hT (t := t) (n := n) (e := e) (by unfold Tab.desc; rw [hi, ← hd])
          simp only [allIn] at hall
          obtain ⟨j, hj⟩ := Option.isSome_iff_exists.1 hall
          obtain ⟨ie, hie, hsz⟩ := get_info hT hj
          obtain ⟨C', q1, q2, q3⟩ := key (fun k => some (k * ie.size, ie.size)) (by
            intro k p hk
            simp only [placeOf, hj] at hk
            rw [hsz]; exact hk)
          refine ⟨.agg C', run_build w t _ C' ?_, .agg q2.1 q2.2, by simp only [AV.lo]; exact q3⟩
          simp only [Program.built, h1, hu, h4, hie]
          exact q1
        | _ => rw [hd] at hall; simp [allIn] at hall
      · cases he
    · cases he
  · cases he

end
end Go.Proofs.Ytnnpjblpiecfdaa.Fw
