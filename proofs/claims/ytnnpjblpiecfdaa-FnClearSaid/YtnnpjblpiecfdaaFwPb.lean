/- A local slice is frozen: from here on it is only read. -/
import Derived.Test.YtnnpjblpiecfdaaFwP
namespace Go.Proofs.Ytnnpjblpiecfdaa.Fw
open Go.RowKit
set_option linter.unusedVariables false
set_option linter.unusedSimpArgs false

def AV.frz (l sz : Nat) (rows : List (List CV)) : AV → AV
  | .junk => .junk
  | .c x => .c x
  | .agg cs => .agg (cs.map (AV.frz l sz rows))
  | .tup cs => .tup (cs.map (AV.frz l sz rows))
  | .ref k off => if k = l then .junk else .ref k off
  | .eref k z i off => if k = l then .junk else .eref k z i off
  | .lsl k z off len => if k = l then frzLsl z off len sz rows else .lsl k z off len
  | .fn f caps => .fn f (caps.map (AV.frz l sz rows))

def AObj.frz (l sz : Nat) (rows : List (List CV)) : AObj → AObj
  | .box t cells => .box t (cells.map (AV.frz l sz rows))
  | .arr e z rs => .arr e z rs
  | .brr e z rs => .brr e z (rs.map fun r => r.map (AV.frz l sz rows))

def frzAt (s : AState) (l : Nat) : Option AObj → AState
  | some (.arr _ sz rows) => if l = 0 then s else ⟨s.tmps.map (AV.frz l sz rows), upd (fun k => (s.objs k).map (AObj.frz l sz rows)) l none, s.next⟩
  | _ => s

def AState.frz (s : AState) (l : Nat) : AState := frzAt s l (s.objs l)
def AState.frzL : AState → List Nat → AState
  | s, [] => s
  | s, l :: ls => (s.frz l).frzL ls

/-- The local slices among values. -/
def lslsC : List AV → List Nat
  | [] => []
  | .lsl l _ _ _ :: xs => l :: lslsC xs
  | _ :: xs => lslsC xs
def lslsV : List AV → List Nat
  | [] => []
  | .lsl l _ _ _ :: xs => l :: lslsV xs
  | .agg cs :: xs => lslsC cs ++ lslsV xs
  | _ :: xs => lslsV xs

def frzVals (s : AState) : Op → List AV
  | .buildSlice _ _ ps => ps.toList.map fun p => s.eval p.2
  | .store _ _ x => [s.eval x]
  | .convert _ _ x => [s.eval x]
  | .sliceToArrayPointer _ x => [s.eval x]
  | _ => []

theorem frzAt_next (s : AState) (l : Nat) (o : Option AObj) : (frzAt s l o).next = s.next := by
  unfold frzAt; split <;> (try split) <;> rfl
theorem frzL_next : ∀ (ls : List Nat) (s : AState), (s.frzL ls).next = s.next
  | [], _ => rfl
  | l :: ls, s => (frzL_next ls (s.frz l)).trans (frzAt_next s l _)

section
variable {P : Program} {T : Tab} {E : Entry} {s : AState} {a : Act} {w : World} {F : Nat → Prop} {B : Beta} {U : Nat → Prop}

theorem ARep.frz {B' : Beta} {F' : Nat → Prop} {l sz : Nat} {rows : List (List CV)} (hF : ∀ b, F b → F' b) (hB : ∀ k, k ≠ l → B' k = B k)
    (hl : ∀ off len v, ARep w F B v (.lsl l sz off len) → off + len ≤ rows.length → CRep w F' v (.sl true false sz ((rows.drop off).take len))) {v : Value} {x : AV} (h : ARep w F B v x) : ARep w F' B' v (x.frz l sz rows) := by
  induction h with
  | junk => simp only [AV.frz]; exact .junk
  | c h => simp only [AV.frz]; exact .c (h.keep hF (fun _ _ => rfl))
  | agg h1 h2 ih =>
    simp only [AV.frz]
    refine .agg (by simpa using h1) fun i x v hx hv => ?_
    simp only [List.getElem?_map, Option.map_eq_some_iff] at hx
    obtain ⟨y, hy, rfl⟩ := hx
    exact ih i y v hy hv
  | tup h1 h2 ih =>
    simp only [AV.frz]
    refine .tup (by simpa using h1) fun i x v hx hv => ?_
    simp only [List.getElem?_map, Option.map_eq_some_iff] at hx
    obtain ⟨y, hy, rfl⟩ := hx
    exact ih i y v hy hv
  | @ref v k off h =>
    simp only [AV.frz]
    split
    · exact .junk
    · rename_i e
      exact .ref fun b n hb => h b n (by rw [← hB k e]; exact hb)
  | @eref v k sz i off h =>
    simp only [AV.frz]
    split
    · exact .junk
    · rename_i e
      exact .eref fun b n hb => h b n (by rw [← hB k e]; exact hb)
  | @lsl v k z off len h =>
    simp only [AV.frz]
    split
    · rename_i e
      subst e
      unfold frzLsl
      split
      · rename_i hc
        obtain ⟨rfl, hc⟩ := hc
        exact .c (hl off len v (.lsl h) hc)
      · exact .junk
    · rename_i e
      exact .lsl fun b n hb => h b n (by rw [← hB k e]; exact hb)
  | fn h1 h2 ih =>
    simp only [AV.frz]
    refine .fn (by simpa using h1) fun i x v hx hv => ?_
    simp only [List.getElem?_map, Option.map_eq_some_iff] at hx
    obtain ⟨y, hy, rfl⟩ := hx
    exact ih i y v hy hv

theorem AV.frz_lo {l sz : Nat} {rows : List (List CV)} : ∀ (x : AV), x.lo U → (x.frz l sz rows).lo U
  | .junk, _ => by simp only [AV.frz, AV.lo]
  | .c _, _ => by simp only [AV.frz, AV.lo]
  | .agg cs, h => by
    simp only [AV.frz, AV.lo] at h ⊢
    intro y hy
    obtain ⟨z, hz, rfl⟩ := List.mem_map.1 hy
    exact AV.frz_lo z (h z hz)
  | .tup cs, h => by
    simp only [AV.frz, AV.lo] at h ⊢
    intro y hy
    obtain ⟨z, hz, rfl⟩ := List.mem_map.1 hy
    exact AV.frz_lo z (h z hz)
  | .ref k _, h => by
    simp only [AV.frz]
    split
    · simp only [AV.lo]
    · exact h
  | .eref k _ _ _, h => by
    simp only [AV.frz]
    split
    · simp only [AV.lo]
    · exact h
  | .lsl k _ _ _, h => by
    simp only [AV.frz]
    split
    · unfold frzLsl; split <;> simp only [AV.lo]
    · exact h
  | .fn f caps, h => by
    simp only [AV.frz, AV.lo] at h ⊢
    intro y hy
    obtain ⟨z, hz, rfl⟩ := List.mem_map.1 hy
    exact AV.frz_lo z (h z hz)

theorem RelB.frz (h : RelB E s a w F B U) (l : Nat) : ∃ F' B', RelB E (s.frz l) a w F' B' U := by
  unfold AState.frz
  cases ho : s.objs l with
  | none => exact ⟨F, B, h⟩
  | some o =>
    cases o with
    | box t cells => exact ⟨F, B, h⟩
    | brr e sz rows => exact ⟨F, B, h⟩
    | arr e sz rows =>
      by_cases hl0 : l = 0
      · simp only [frzAt, if_pos hl0]; exact ⟨F, B, h⟩
      simp only [frzAt, if_neg hl0]
      obtain ⟨b, n, hb, hok⟩ := obj_B h ho
      have hF : ∀ k, F k → F k ∨ k = b := fun k hk => .inl hk
      have hB : ∀ k, k ≠ l → (if k = l then none else B k) = B k := fun k e => if_neg e
      have hsub : ∀ k c m, (if k = l then none else B k) = some (c, m) → k ≠ l ∧ B k = some (c, m) := by
        intro k c m hb
        split at hb
        · cases hb
        · exact ⟨‹_›, hb⟩
      have hl : ∀ off len v, ARep w F B v (.lsl l sz off len) → off + len ≤ rows.length → CRep w (fun k => F k ∨ k = b) v (.sl true false sz ((rows.drop off).take len)) := fun off len v hv hle => lsl_frz hb hok hv hle
      refine ⟨fun k => F k ∨ k = b, fun k => if k = l then none else B k, ?_⟩
      refine { size := by simpa using h.size, tmps := ?_, defers := h.defers, live := ?_, objs := ?_, inj := ?_, apart := ?_, flt := ?_, blt := ?_, fsrc := ?_, bsrc := ?_, frame := h.frame, grown := h.grown, os := h.os, tape := h.tape, output := h.output, wfT := ?_, wfO := ?_, anchor := ?_ }
      · intro i x v hx hv
        simp only [List.getElem?_map, Option.map_eq_some_iff] at hx
        obtain ⟨y, hy, rfl⟩ := hx
        exact (h.tmps i y v hy hv).frz hF hB hl
      · intro k
        by_cases e : k = l
        · simp [upd, e]
        · simp only [upd, if_neg e, Option.map_eq_none_iff]; exact h.live k
      · intro k c m o1 hc ho1
        obtain ⟨e, hc⟩ := hsub k c m hc
        simp only [upd, if_neg e, Option.map_eq_some_iff] at ho1
        obtain ⟨o2, ho2, rfl⟩ := ho1
        have h0 := h.objs k c m o2 hc ho2
        cases o2 with
        | box t cells =>
          obtain ⟨C, h1, h2, h3⟩ := h0
          refine ⟨C, h1, by simpa using h2, fun j x v hx hv => ?_⟩
          simp only [List.getElem?_map, Option.map_eq_some_iff] at hx
          obtain ⟨y, hy, rfl⟩ := hx
          exact (h3 j y v hy hv).frz hF hB hl
        | arr e' z rs =>
          obtain ⟨C, h1, h2, h3, h3', h4⟩ := h0
          exact ⟨C, h1, h2, h3, h3', fun i row hr => ⟨(h4 i row hr).1, fun j x v hx hv => ((h4 i row hr).2 j x v hx hv).keep hF (fun _ _ => rfl)⟩⟩
        | brr e' z rs =>
          obtain ⟨C, h1, h2, h3, h3', h4⟩ := h0
          refine ⟨C, h1, h2, by simpa using h3, h3', fun i row hr => ?_⟩
          simp only [List.getElem?_map, Option.map_eq_some_iff] at hr
          obtain ⟨r, hr', rfl⟩ := hr
          refine ⟨by simpa using (h4 i r hr').1, fun j x v hx hv => ?_⟩
          simp only [List.getElem?_map, Option.map_eq_some_iff] at hx
          obtain ⟨y, hy, rfl⟩ := hx
          exact ((h4 i r hr').2 j y v hy hv).frz hF hB hl
      · exact fun k k' c m m' hc hc' => h.inj k k' c m m' (hsub _ _ _ hc).2 (hsub _ _ _ hc').2
      · rintro k c m hc (hf | rfl)
        · exact h.apart k c m (hsub _ _ _ hc).2 hf
        · exact (hsub _ _ _ hc).1 (h.inj k l c m n (hsub _ _ _ hc).2 hb)
      · rintro c (hf | rfl)
        · exact h.flt c hf
        · exact h.blt l c n hb
      · exact fun k c m hc => h.blt k c m (hsub _ _ _ hc).2
      · rintro c (hf | rfl)
        · exact h.fsrc c hf
        · exact .inr (h.bsrc l c n hb)
      · exact fun k c m hc => h.bsrc k c m (hsub _ _ _ hc).2
      · intro x hx
        obtain ⟨y, hy, rfl⟩ := List.mem_map.1 hx
        exact AV.frz_lo y (h.wfT y hy)
      · intro k o1 ho1
        by_cases e : k = l
        · simp [upd, e] at ho1
        · simp only [upd, if_neg e, Option.map_eq_some_iff] at ho1
          obtain ⟨o2, ho2, rfl⟩ := ho1
          refine ⟨(h.wfO k o2 ho2).1, ?_⟩
          have h0 := (h.wfO k o2 ho2).2
          cases o2 with
          | box t cells =>
            intro y hy
            obtain ⟨z, hz, rfl⟩ := List.mem_map.1 hy
            exact AV.frz_lo z (h0 z hz)
          | arr e' z rs => trivial
          | brr e' z rs =>
            intro row hr x hx
            obtain ⟨r, hr', rfl⟩ := List.mem_map.1 hr
            obtain ⟨y, hy, rfl⟩ := List.mem_map.1 hx
            exact AV.frz_lo y (h0 r hr' y hy)
      · intro p hp
        obtain ⟨h1, h2⟩ := h.anchor p hp
        refine ⟨h1, fun c m hc => ?_⟩
        exact h2 c m (hsub _ _ _ hc).2

theorem RelB.frzL : ∀ (ls : List Nat) {s : AState} {F : Nat → Prop} {B : Beta}, RelB E s a w F B U → ∃ F' B', RelB E (s.frzL ls) a w F' B' U
  | [], _, F, B, h => ⟨F, B, h⟩
  | l :: ls, _, _, _, h => by
    obtain ⟨F', B', h'⟩ := h.frz l
    exact RelB.frzL ls h'

/-! ### an append in a region that draws: the grown slice is a new object, the old one is gone -/
def AState.mov (s : AState) (nid l : Nat) (o : AObj) : AState := { s with objs := upd (upd s.objs l none) nid (some o) }
def movV (q : Bool) (nid : Nat) : AV → Eff → AV
  | x, .app _ _ => (match x with | .lsl l z off n => if q = true then .lsl nid z off n else .lsl l z off n | y => y)
  | x, .no => x
  | x, .new _ => x
  | x, .put _ _ => x
def movS (q : Bool) (s : AState) (nid : Nat) : Eff → AState
  | .app l o => if q = true then s.mov nid l o else s.eff nid (.app l o)
  | e => s.eff nid e
theorem movV_false (nid : Nat) (x : AV) (e : Eff) : movV false nid x e = x := by
  cases e <;> first | rfl | (cases x <;> rfl)
theorem movS_false (s : AState) (nid : Nat) (e : Eff) : movS false s nid e = s.eff nid e := by
  unfold movS; split <;> rfl

theorem ARep.unkill {w : World} {F : Nat → Prop} {B B' : Beta} {U : Nat → Prop} {l : Nat} (hB : ∀ k, U k → k ≠ l → B' k = B k) (hl : B' l = none) : ∀ (x : AV) {v : Value}, ARep w F B v (x.kill l) → x.lo U → ARep w F B' v x
  | .junk, _, _, _ => .junk
  | .c _, _, h, _ => by simp only [AV.kill] at h; cases h with | c h => exact .c h
  | .agg cs, _, h, hlo => by
    simp only [AV.kill] at h
    simp only [AV.lo] at hlo
    cases h with | agg h1 h2 =>
    refine .agg (by simpa using h1) fun i x v hx hv => ?_
    have hm := List.mem_of_getElem? hx
    exact ARep.unkill hB hl x (h2 i (x.kill l) v (by simp [hx]) hv) (hlo x hm)
  | .tup cs, _, h, hlo => by
    simp only [AV.kill] at h
    simp only [AV.lo] at hlo
    cases h with | tup h1 h2 =>
    refine .tup (by simpa using h1) fun i x v hx hv => ?_
    have hm := List.mem_of_getElem? hx
    exact ARep.unkill hB hl x (h2 i (x.kill l) v (by simp [hx]) hv) (hlo x hm)
  | .ref k off, _, h, hlo => by
    simp only [AV.kill] at h
    simp only [AV.lo] at hlo
    refine .ref fun b n hb => ?_
    by_cases e : k = l
    · rw [e, hl] at hb; cases hb
    · rw [if_neg e] at h
      cases h with | ref h => exact h b n (by rw [← hB k hlo e]; exact hb)
  | .eref k sz i off, _, h, hlo => by
    simp only [AV.kill] at h
    simp only [AV.lo] at hlo
    refine .eref fun b n hb => ?_
    by_cases e : k = l
    · rw [e, hl] at hb; cases hb
    · rw [if_neg e] at h
      cases h with | eref h => exact h b n (by rw [← hB k hlo e]; exact hb)
  | .lsl k sz off len, _, h, hlo => by
    simp only [AV.kill] at h
    simp only [AV.lo] at hlo
    refine .lsl fun b n hb => ?_
    by_cases e : k = l
    · rw [e, hl] at hb; cases hb
    · rw [if_neg e] at h
      cases h with | lsl h => exact h b n (by rw [← hB k hlo e]; exact hb)
  | .fn f caps, _, h, hlo => by
    simp only [AV.kill] at h
    simp only [AV.lo] at hlo
    cases h with | fn h1 h2 =>
    refine .fn (by simpa using h1) fun i x v hx hv => ?_
    have hm := List.mem_of_getElem? hx
    exact ARep.unkill hB hl x (h2 i (x.kill l) v (by simp [hx]) hv) (hlo x hm)

theorem RelB.mov {w' : World} {F' : Nat → Prop} {B' : Beta} (h0 : RelB E s a w F B U) {nid l e sz r : Nat} {rows rows' : List (List CV)} {o : AObj} (hn : ¬ U nid) (hl0 : l ≠ 0) (hl : s.objs l = some (.arr e r rows)) (ho : o = .arr e sz rows')
    (h : RelB E (s.eff nid (.app l o)) a w' F' B' (fun k => U k ∨ k = nid)) : RelB E (s.mov nid l o) a w' F' (fun k => if k = nid then B' l else if k = l then none else B' k) (fun k => U k ∨ k = nid) := by
  subst ho
  have hln : l ≠ nid := fun e => hn (e ▸ (h0.wfO l _ hl).1)
  have hB : ∀ k, U k → k ≠ l → (if k = nid then B' l else if k = l then none else B' k) = B' k := fun k hk e => by
    rw [if_neg (fun (e' : k = nid) => hn (e' ▸ hk)), if_neg e]
  have hBl : (if l = nid then B' l else if l = l then none else B' l) = none := by rw [if_neg hln, if_pos rfl]
  have hsub : ∀ k b n, (if k = nid then B' l else if k = l then none else B' k) = some (b, n) → (k = nid ∧ B' l = some (b, n)) ∨ (k ≠ nid ∧ k ≠ l ∧ B' k = some (b, n)) := by
    intro k b n hb
    split at hb
    · exact .inl ⟨‹_›, hb⟩
    · split at hb
      · cases hb
      · exact .inr ⟨‹_›, ‹_›, hb⟩
  have hobj : ∀ k, (s.eff nid (.app l (.arr e sz rows'))).objs k = if k = l then some (.arr e sz rows') else (s.objs k).map (AObj.kill l) := fun k => rfl
  have hmo : ∀ k, (s.mov nid l (.arr e sz rows')).objs k = if k = nid then some (.arr e sz rows') else if k = l then none else s.objs k := fun k => rfl
  refine { size := ?_, tmps := ?_, defers := h.defers, live := ?_, objs := ?_, inj := ?_, apart := ?_, flt := h.flt, blt := ?_, fsrc := h.fsrc, bsrc := ?_, frame := h.frame, grown := h.grown, os := h.os, tape := h.tape, output := h.output, wfT := ?_, wfO := ?_, anchor := ?_ }
  · simpa [AState.eff, AState.mov] using h.size
  · intro i x v hx hv
    exact ARep.unkill hB hBl x (h.tmps i (x.kill l) v (by simp only [AState.eff, List.getElem?_map]; simp only [AState.mov] at hx; rw [hx]; rfl) hv) (h0.wfT x (List.mem_of_getElem? hx))
  · intro k
    rw [hmo]
    by_cases e1 : k = nid
    · simp only [if_pos e1, reduceCtorEq, iff_false]
      intro hb
      have := (h.live l).1 hb
      rw [hobj, if_pos rfl] at this
      cases this
    · simp only [if_neg e1]
      by_cases e2 : k = l
      · simp [e2]
      · simp only [if_neg e2]
        rw [h.live k, hobj, if_neg e2, Option.map_eq_none_iff]
  · intro k b n o1 hb ho1
    rw [hmo] at ho1
    rcases hsub k b n hb with ⟨rfl, gb⟩ | ⟨e1, e2, gb⟩
    · rw [if_pos rfl] at ho1
      cases ho1
      exact h.objs l b n _ gb (by rw [hobj, if_pos rfl])
    · rw [if_neg e1, if_neg e2] at ho1
      have h1 := h.objs k b n (o1.kill l) gb (by rw [hobj, if_neg e2, ho1]; rfl)
      have hlo := (h0.wfO k o1 ho1).2
      cases o1 with
      | box t cells =>
        obtain ⟨C, g1, g2, g3⟩ := h1
        refine ⟨C, g1, by simpa using g2, fun j x v hx hv => ?_⟩
        exact ARep.unkill hB hBl x (g3 j (x.kill l) v (by simp [hx]) hv) (hlo x (List.mem_of_getElem? hx))
      | arr e' sz' rs => exact h1
      | brr e' sz' rs =>
        obtain ⟨C, g1, g2, g3, g3', g4⟩ := h1
        refine ⟨C, g1, g2, by simpa using g3, g3', fun i row hr => ?_⟩
        have h5 := g4 i (row.map (AV.kill l)) (by simp [hr])
        refine ⟨by simpa using h5.1, fun j x v hx hv => ?_⟩
        exact ARep.unkill hB hBl x (h5.2 j (x.kill l) v (by simp [hx]) hv) (hlo row (List.mem_of_getElem? hr) x (List.mem_of_getElem? hx))
  · intro k k' b n n' hb hb'
    rcases hsub k b n hb with ⟨rfl, gb⟩ | ⟨e1, e2, gb⟩
    · rcases hsub k' b n' hb' with ⟨rfl, gb'⟩ | ⟨e1', e2', gb'⟩
      · rfl
      · exact absurd (h.inj l k' b n n' gb gb') (Ne.symm e2')
    · rcases hsub k' b n' hb' with ⟨rfl, gb'⟩ | ⟨e1', e2', gb'⟩
      · exact absurd (h.inj k l b n n' gb gb') e2
      · exact h.inj k k' b n n' gb gb'
  · intro k b n hb
    rcases hsub k b n hb with ⟨rfl, gb⟩ | ⟨e1, e2, gb⟩
    · exact h.apart l b n gb
    · exact h.apart k b n gb
  · intro k b n hb
    rcases hsub k b n hb with ⟨rfl, gb⟩ | ⟨e1, e2, gb⟩
    · exact h.blt l b n gb
    · exact h.blt k b n gb
  · intro k b n hb
    rcases hsub k b n hb with ⟨rfl, gb⟩ | ⟨e1, e2, gb⟩
    · exact h.bsrc l b n gb
    · exact h.bsrc k b n gb
  · intro x hx
    exact AV.lo_mono (fun _ h => .inl h) x (h0.wfT x hx)
  · intro k o1 ho1
    rw [hmo] at ho1
    split at ho1
    · cases ho1; exact ⟨.inr ‹_›, trivial⟩
    · split at ho1
      · cases ho1
      · exact ⟨.inl (h0.wfO k o1 ho1).1, AObj.lo_mono (fun _ h => .inl h) (h0.wfO k o1 ho1).2⟩
  · intro p hp
    obtain ⟨g1, g2⟩ := h0.anchor p hp
    have e0 : (0 : Nat) ≠ nid := fun e => hn (e ▸ g1)
    have e1 : (0 : Nat) ≠ l := fun e => hl0 e.symm
    refine ⟨.inl g1, fun b n hb => ?_⟩
    rw [if_neg e0, if_neg e1] at hb
    exact (h.anchor p hp).2 b n hb

/-- What an append yields. -/
theorem aappend_forms {nid : Nat} {t : TypeId} {x y z : AV} {e : Eff} (h : aappend T s nid t x y = some (z, e)) : (e = .no ∨ ∃ o, e = .new o) ∨ ∃ l sz off n el rows rows', l ≠ 0 ∧ x = .lsl l sz off n ∧ (∃ m, z = .lsl l sz 0 m) ∧ (∃ r, s.objs l = some (.arr el r rows)) ∧ e = .app l (.arr el sz rows') := by
  unfold aappend at h
  split at h
  · split at h
    · split at h
      · split at h
        · split at h
          · split at h
            · split at h
              · split at h
                · cases h
                  rename_i ho he
                  subst he
                  exact .inr ⟨_, _, _, _, _, _, _, (show (_ = 0 ∧ _ ≠ 0) from by assumption).2, rfl, ⟨_, rfl⟩, ⟨_, ho⟩, rfl⟩
                · cases h
              · cases h
            · cases h
          · split at h
            · split at h
              · cases h; exact .inl (.inl rfl)
              · split at h
                · cases h; exact .inl (.inr ⟨_, rfl⟩)
                · cases h
            · cases h
          · cases h
        · cases h
      · cases h
    · cases h
  · cases h

theorem aeff_builtin_forms {nid : Nat} {c : Call} {b : Builtin} {z : AV} {e : Eff} (hc : c.callee = .builtin b) (h : aeff T s nid (.call c) = some (z, e)) : (e = .no ∨ ∃ o, e = .new o) ∨ ∃ l sz m el r rows rows', l ≠ 0 ∧ z = .lsl l sz 0 m ∧ s.objs l = some (.arr el r rows) ∧ e = .app l (.arr el sz rows') := by
  simp only [aeff, hc] at h
  cases b <;> simp only at h
  case append =>
    split at h
    · split at h
      · rcases aappend_forms h with h | ⟨l, sz, off, n, el, rows, rows', hl0, _, ⟨m, rfl⟩, ⟨r, ho⟩, rfl⟩
        · exact .inl h
        · exact .inr ⟨l, sz, m, el, r, rows, rows', hl0, rfl, ho, rfl⟩
      · cases h
    · cases h
  all_goals
    split at h
    · cases h; exact .inl (.inl rfl)
    · cases h

theorem movS_next (q : Bool) (s : AState) (nid : Nat) (e : Eff) : (movS q s nid e).next = s.next := by
  cases e with
  | app l o => simp only [movS]; split <;> rfl
  | _ => rfl

end
end Go.Proofs.Ytnnpjblpiecfdaa.Fw
