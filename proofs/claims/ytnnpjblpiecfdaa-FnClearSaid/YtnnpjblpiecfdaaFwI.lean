/- Values' cells, zero values, literals. -/
import Derived.Test.YtnnpjblpiecfdaaFwH
import Derived.Great.BuildSlice
import Derived.Laws.MakeOwn
namespace Go.Proofs.Ytnnpjblpiecfdaa.Fw
open Go.RowKit

def splice (l : List AV) (off : Nat) (cs : List AV) : List AV := l.take off ++ (cs ++ l.drop (off + cs.length))

def afill (s : AState) (place : Nat → Option (Nat × Nat)) : List AV → List (Nat × AV) → Option (List AV)
  | cells, [] => some cells
  | cells, (i, x) :: rest => match place i with
    | some (off, size) => match cellsOf s x with
      | some cs => if cs.length = size then (if off + size ≤ cells.length then afill s place (splice cells off cs) rest else none) else none
      | none => none
    | none => none

def placeOf (T : Tab) : TD → Nat → Option (Nat × Nat)
  | .struct fs, k => match fs[k]? with
    | some (ft, off) => match T.get ft with | some j => some (off, j.size) | none => none
    | none => none
  | .array _ e, k => match T.get e with | some j => some (k * j.size, j.size) | none => none
  | _, _ => none

def allIn (T : Tab) : TD → Bool
  | .struct fs => fs.all fun f => (T.get f.1).isSome
  | .array _ e => (T.get e).isSome
  | _ => false

def abuild (T : Tab) (s : AState) (t : TypeId) (parts : List (Nat × AV)) : Option AV :=
  match T.get t with
  | some i => if allIn T i.d = true then (match afill s (placeOf T i.d) (i.zero.map .c) parts with | some cells => some (.agg cells) | none => none) else none
  | none => none

def toCVs : List AV → Option (List CV)
  | [] => some []
  | .c x :: l => match toCVs l with | some r => some (x :: r) | none => none
  | _ => none

def rowsOf (sz : Nat) : Nat → List CV → List (List CV)
  | 0, _ => []
  | n + 1, l => l.take sz :: rowsOf sz n (l.drop sz)

def zeros : Nat → List CV → List AV
  | 0, _ => []
  | n + 1, z => z.map .c ++ zeros n z

section
variable {P : Program} {T : Tab} {E : Entry} {s : AState} {a : Act} {w : World} {F : Nat → Prop} {B : Beta} {U : Nat → Prop}

/-- An array of values holds a list of abstract ones. -/
def Cells (w : World) (F : Nat → Prop) (B : Beta) (C : Array Value) (cs : List AV) : Prop := C.size = cs.length ∧ ∀ (i : Nat) x v, cs[i]? = some x → C[i]? = some v → ARep w F B v x

theorem Cells.one {v : Value} {x : AV} (h : ARep w F B v x) : Cells w F B #[v] [x] := by
  refine ⟨rfl, fun i y u hy hu => ?_⟩
  cases i with
  | zero => cases hy; cases hu; exact h
  | succ i => simp at hy

theorem crep_cells {v : Value} {x : CV} (h : CRep w F v x) : v.cells = #[v] ∧ v.oneCell' = true := by
  cases h with
  | v h => cases v <;> first | exact ⟨rfl, rfl⟩ | (simp [atomic] at h)
  | _ => exact ⟨rfl, rfl⟩

theorem cells_rep (h : RelB E s a w F B U) {v : Value} {x : AV} {cs : List AV} (hx : ARep w F B v x) (hlo : x.lo U) (he : cellsOf s x = some cs) : Cells w F B v.cells cs ∧ ∀ y ∈ cs, y.lo U := by
  cases x with
  | junk => simp [cellsOf] at he
  | tup l => simp [cellsOf] at he
  | c x =>
    simp only [cellsOf, Option.some.injEq] at he
    subst he
    refine ⟨?_, by simpa using hlo⟩
    cases hx with | c hx => rw [(crep_cells hx).1]; exact Cells.one (.c hx)
  | agg l =>
    simp only [cellsOf, Option.some.injEq] at he
    subst he
    cases hx with | agg h1 h2 =>
    simp only [AV.lo] at hlo
    exact ⟨⟨h1, h2⟩, hlo⟩
  | ref l off =>
    simp only [cellsOf] at he
    split at he
    · cases he
      refine ⟨?_, by simpa using hlo⟩
      obtain ⟨b, n, _, hb, _, _⟩ := alive_B h ‹_›
      have hx' := hx
      cases hx with | ref hx =>
      have hv := hx b n hb
      rw [show v.cells = #[v] by rw [hv]; rfl]
      exact Cells.one hx'
    · cases he
  | eref l sz i off =>
    simp only [cellsOf] at he
    split at he
    · cases he
      refine ⟨?_, by simpa using hlo⟩
      obtain ⟨b, n, _, hb, _, _⟩ := alive_B h ‹_›
      have hx' := hx
      cases hx with | eref hx =>
      have hv := hx b n hb
      rw [show v.cells = #[v] by rw [hv]; rfl]
      exact Cells.one hx'
    · cases he
  | lsl l sz off len =>
    simp only [cellsOf] at he
    split at he
    · cases he
      refine ⟨?_, by simpa using hlo⟩
      obtain ⟨b, n, _, hb, _, _⟩ := alive_B h ‹_›
      have hx' := hx
      cases hx with | lsl hx =>
      obtain ⟨_, ad, hv, _⟩ := hx b n hb
      rw [show v.cells = #[v] by rw [hv]; rfl]
      exact Cells.one hx'
    · cases he
  | fn f caps =>
    simp only [cellsOf, Option.some.injEq] at he
    subst he
    refine ⟨?_, by simpa using hlo⟩
    have hx' := hx
    cases hx with | fn h1 h2 => exact Cells.one hx'

theorem zero_rep : ∀ {vs : List Value} {xs : List CV}, areZero vs xs = true → vs.length = xs.length ∧ ∀ (i : Nat) x v, xs[i]? = some x → vs[i]? = some v → CRep w F v x
  | [], [], _ => ⟨rfl, fun i x v hx => by simp at hx⟩
  | v :: vs, x :: xs, h => by
    simp only [areZero, Bool.and_eq_true] at h
    obtain ⟨h1, h2⟩ := zero_rep h.2
    refine ⟨by simp [h1], fun i y u hy hu => ?_⟩
    cases i with
    | succ i => exact h2 i y u (by simpa using hy) (by simpa using hu)
    | zero =>
      simp only [List.getElem?_cons_zero, Option.some.injEq] at hy hu
      subst hy hu
      have hz := h.1
      unfold isZero at hz
      split at hz <;> first
        | (simp only [beq_iff_eq, Bool.and_eq_true] at hz; subst hz; exact .v rfl)
        | (simp only [beq_iff_eq, Bool.and_eq_true] at hz; obtain ⟨rfl, rfl⟩ := hz; exact .v rfl)
        | exact .v rfl
        | exact .nil
        | cases hz
        | skip
      rename_i s1 t1
      simp only [Bool.and_eq_true, List.isEmpty_iff] at hz
      have e : s1 = t1 := by
        cases s1; cases t1
        simp only [ByteArray.mk.injEq]
        rw [← Array.toList_inj, hz.1, hz.2]
      subst e
      exact .v rfl
  | [], _ :: _, h => by simp [areZero] at h
  | _ :: _, [], h => by simp [areZero] at h

/-! ### filling in -/
theorem fold_set (off : Nat) : ∀ (l : List Value) (k : Nat) (C : Array Value), ((l.zipIdx k).foldl (fun cs (p : Value × Nat) => cs.setIfInBounds (off + p.2) p.1) C).size = C.size ∧
    ∀ i, ((l.zipIdx k).foldl (fun cs (p : Value × Nat) => cs.setIfInBounds (off + p.2) p.1) C)[i]? = if off + k ≤ i ∧ i < off + k + l.length ∧ i < C.size then l[i - (off + k)]? else C[i]?
  | [], k, C => ⟨rfl, fun i => by simp only [List.zipIdx_nil, List.foldl_nil, List.length_nil]; rw [if_neg (by omega)]⟩
  | v :: l, k, C => by
    obtain ⟨h1, h2⟩ := fold_set off l (k + 1) (C.setIfInBounds (off + k) v)
    simp only [List.zipIdx_cons, List.foldl_cons]
    refine ⟨by rw [h1]; simp, fun i => ?_⟩
    rw [h2 i, Array.size_setIfInBounds, List.length_cons]
    by_cases hi : off + k + 1 ≤ i ∧ i < off + k + 1 + l.length ∧ i < C.size
    · rw [if_pos (by omega), if_pos (by omega)]
      rw [show i - (off + k) = (i - (off + (k + 1))) + 1 by omega, List.getElem?_cons_succ]
    · rw [if_neg (by omega), Array.getElem?_setIfInBounds]
      by_cases he : off + k = i
      · subst he
        rw [if_pos rfl]
        by_cases hs : off + k < C.size
        · rw [if_pos hs, if_pos (by omega)]
          simp
        · rw [if_neg hs, if_neg (by omega), Array.getElem?_eq_none (by omega)]
      · rw [if_neg he, if_neg (by omega)]

theorem fill_sound (h : RelB E s a w F B U) {place place' : Nat → Option (Nat × Nat)} (hp : ∀ i p, place i = some p → place' i = some p) :
    ∀ (parts : List (Nat × AV)) (vparts : List (Nat × Value)) (cells cells' : List AV) (C : Array Value), afill s place cells parts = some cells' → vparts.length = parts.length →
      (∀ (i : Nat) p q, parts[i]? = some p → vparts[i]? = some q → q.1 = p.1 ∧ ARep w F B q.2 p.2) → (∀ p ∈ parts, p.2.lo U) → (∀ y ∈ cells, y.lo U) → Cells w F B C cells →
      ∃ C', Instr.fill place' C vparts = some C' ∧ Cells w F B C' cells' ∧ cells'.length = cells.length ∧ ∀ y ∈ cells', y.lo U
  | [], [], cells, cells', C, he, _, _, _, hcl, hC => by
    simp only [afill, Option.some.injEq] at he
    subst he
    exact ⟨C, rfl, hC, rfl, hcl⟩
  | (i, x) :: parts, (j, v) :: vparts, cells, cells', C, he, hl, hr, hlo, hcl, hC => by
    obtain ⟨h1, h2⟩ := hr 0 _ _ rfl rfl
    simp only at h1 h2
    subst h1
    simp only [afill] at he
    split at he
    · rename_i off size hpl
      split at he
      · rename_i cs hcs
        split at he
        · rename_i hsz
          split at he
          · rename_i hfit
            obtain ⟨hv, hvl⟩ := cells_rep h h2 (hlo _ List.mem_cons_self) hcs
            have hvs : v.cells.size = size := by rw [hv.1, hsz]
            obtain ⟨f1, f2⟩ := fold_set off v.cells.toList 0 C
            have hstep : Cells w F B ((v.cells.toList.zipIdx 0).foldl (fun cs (p : Value × Nat) => cs.setIfInBounds (off + p.2) p.1) C) (splice cells off cs) := by
              have hlen : (splice cells off cs).length = cells.length := by
                simp only [splice, List.length_append, List.length_take, List.length_drop]; omega
              refine ⟨by rw [f1, hC.1, hlen], fun k y u hy hu => ?_⟩
              rw [f2 k] at hu
              simp only [splice] at hy
              have hC1 := hC.1
              by_cases hk : k < off
              · rw [if_neg (by omega)] at hu
                rw [List.getElem?_append_left (by simp only [List.length_take]; omega), List.getElem?_take, if_pos hk] at hy
                exact hC.2 k y u hy hu
              · rw [List.getElem?_append_right (by simp only [List.length_take]; omega), List.length_take, Nat.min_eq_left (by omega)] at hy
                by_cases hk2 : k < off + size
                · rw [List.getElem?_append_left (by omega)] at hy
                  rw [if_pos (by simp only [Array.length_toList]; omega)] at hu
                  exact hv.2 (k - off) y u hy (by simpa using hu)
                · rw [List.getElem?_append_right (by omega), List.getElem?_drop] at hy
                  rw [if_neg (by simp only [Array.length_toList]; omega)] at hu
                  refine hC.2 k y u ?_ hu
                  rw [← hy]; congr 1; omega
            have hlo' : ∀ y ∈ splice cells off cs, y.lo U := by
              intro y hy
              simp only [splice, List.mem_append] at hy
              rcases hy with hy | hy | hy
              · exact hcl y (List.mem_of_mem_take hy)
              · exact hvl y hy
              · exact hcl y (List.mem_of_mem_drop hy)
            obtain ⟨C', hf, hC', hlen', hlo''⟩ := fill_sound h hp parts vparts _ cells' _ he (by simpa using hl) (fun i p q hp hq => hr (i + 1) p q (by simpa using hp) (by simpa using hq)) (fun p hp => hlo p (by simp [hp])) hlo' hstep
            refine ⟨C', ?_, hC', ?_, hlo''⟩
            · simp only [Instr.fill, hp _ _ hpl]
              have hC1 := hC.1
              rw [if_neg (by simp only [Bool.or_eq_true, decide_eq_true_eq]; omega)]
              rw [← hf, ← Array.foldl_toList, Array.toList_zipIdx]
            · rw [hlen']; simp only [splice, List.length_append, List.length_take, List.length_drop]; omega
          · cases he
        · cases he
      · cases he
    · cases he
  | [], _ :: _, _, _, _, _, hl, _, _, _, _ => by simp at hl
  | _ :: _, [], _, _, _, _, hl, _, _, _, _ => by simp at hl

end
end Go.Proofs.Ytnnpjblpiecfdaa.Fw
