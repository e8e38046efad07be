/- A local slice is frozen: from here on it is only read. -/
import Derived.Test.YtdglnjgjonbfbaaFwP
namespace Go.Proofs.Ytdglnjgjonbfbaa.Fw
open Go.RowKit
set_option linter.unusedVariables false
set_option linter.unusedSimpArgs false

def frzLsl (z off len sz : Nat) (rows : List (List CV)) : AV := if z = sz ∧ off + len ≤ rows.length then .c (.sl false false z ((rows.drop off).take len)) else .junk

def AV.frz (l sz : Nat) (rows : List (List CV)) : AV → AV
  | .junk => .junk
  | .c x => .c x
  | .agg cs => .agg (cs.map (AV.frz l sz rows))
  | .tup cs => .tup (cs.map (AV.frz l sz rows))
  | .ref k off => if k = l then .junk else .ref k off
  | .eref k z i off => if k = l then .junk else .eref k z i off
  | .lsl k z off len => if k = l then frzLsl z off len sz rows else .lsl k z off len
  | .fn f caps => .fn f (caps.map (AV.frz l sz rows))

def AObj.frz (l sz : Nat) (rows : List (List CV)) : AObj → AObj
  | .box t cells => .box t (cells.map (AV.frz l sz rows))
  | .arr e z rs => .arr e z rs

def frzAt (s : AState) (l : Nat) : Option AObj → AState
  | some (.arr _ sz rows) => ⟨s.tmps.map (AV.frz l sz rows), upd (fun k => (s.objs k).map (AObj.frz l sz rows)) l none, s.next⟩
  | _ => s

def AState.frz (s : AState) (l : Nat) : AState := frzAt s l (s.objs l)
def AState.frzL : AState → List Nat → AState
  | s, [] => s
  | s, l :: ls => (s.frz l).frzL ls

/-- The local slices among values. -/
def lslsC : List AV → List Nat
  | [] => []
  | .lsl l _ _ _ :: xs => l :: lslsC xs
  | _ :: xs => lslsC xs
def lslsV : List AV → List Nat
  | [] => []
  | .lsl l _ _ _ :: xs => l :: lslsV xs
  | .agg cs :: xs => lslsC cs ++ lslsV xs
  | _ :: xs => lslsV xs

def frzVals (s : AState) : Op → List AV
  | .buildSlice _ _ ps => ps.toList.map fun p => s.eval p.2
  | .store _ _ x => [s.eval x]
  | _ => []

theorem frzAt_next (s : AState) (l : Nat) (o : Option AObj) : (frzAt s l o).next = s.next := by
  unfold frzAt; split <;> rfl
theorem frzL_next : ∀ (ls : List Nat) (s : AState), (s.frzL ls).next = s.next
  | [], _ => rfl
  | l :: ls, s => (frzL_next ls (s.frz l)).trans (frzAt_next s l _)

section
variable {P : Program} {T : Tab} {E : Entry} {s : AState} {a : Act} {w : World} {F : Nat → Prop} {B : Beta} {U : Nat → Prop}

theorem lsl_frz {l b n e sz : Nat} {rows : List (List CV)} (hb : B l = some (b, n)) (hok : ObjOk w F B b n (.arr e sz rows)) {off len : Nat} {v : Value} (hx : ARep w F B v (.lsl l sz off len)) (hfit : off + len ≤ rows.length) :
    CRep w (fun k => F k ∨ k = b) v (.sl false false sz ((rows.drop off).take len)) := by
  obtain ⟨C, hC, hCs, hrl, _, hCr⟩ := hok
  cases hx with | lsl hx =>
  obtain ⟨hle, ad, rfl, had⟩ := hx b n hb
  have hlen : ((rows.drop off).take len).length = len := by simp only [List.length_take, List.length_drop]; omega
  have hrow : ∀ i row, ((rows.drop off).take len)[i]? = some row → i < len ∧ rows[off + i]? = some row := by
    intro i row hr
    rw [List.getElem?_take] at hr
    split at hr
    · rw [List.getElem?_drop] at hr
      exact ⟨‹_›, hr⟩
    · cases hr
  have hget : ∀ i j row, rows[off + i]? = some row → j < row.length → C[(off + i) * sz + j]? = some (C.getD ((off + i) * sz + j) undef) := by
    intro i j row hr hj
    have h1 := (hCr _ _ hr).1
    have h2 : off + i < rows.length := (List.getElem?_eq_some_iff.1 hr).1
    have : (off + i + 1) * sz ≤ n * sz := Nat.mul_le_mul_right _ (by omega)
    rw [Nat.add_mul _ 1] at this
    have hlt : (off + i) * sz + j < C.size := by omega
    simp [Array.getD_eq_getD_getElem?, Array.getElem?_eq_getElem hlt]
  refine .sl (fun i j => C.getD ((off + i) * sz + j) undef) hlen.symm (by omega) (by simp) (fun i row hr j x hx => ⟨.inr ?_, ?_⟩) (fun i row hr j x hx => ?_)
  · obtain ⟨h1, h2⟩ := hrow i row hr
    rw [had (.inl (by omega))]
  · obtain ⟨h1, h2⟩ := hrow i row hr
    rw [had (.inl (by omega)), add_plain, cell_blk hC, ← Nat.add_assoc, ← Nat.add_mul]
    exact hget i j row h2 (List.getElem?_eq_some_iff.1 hx).1
  · obtain ⟨h1, h2⟩ := hrow i row hr
    exact ((hCr _ _ h2).2 j x _ hx (hget i j row h2 (List.getElem?_eq_some_iff.1 hx).1)).keep (fun _ h => .inl h) (fun _ _ => rfl)

theorem ARep.frz {B' : Beta} {F' : Nat → Prop} {l sz : Nat} {rows : List (List CV)} (hF : ∀ b, F b → F' b) (hB : ∀ k, k ≠ l → B' k = B k)
    (hl : ∀ off len v, ARep w F B v (.lsl l sz off len) → off + len ≤ rows.length → CRep w F' v (.sl false false sz ((rows.drop off).take len))) {v : Value} {x : AV} (h : ARep w F B v x) : ARep w F' B' v (x.frz l sz rows) := by
  induction h with
  | junk => simp only [AV.frz]; exact .junk
  | c h => simp only [AV.frz]; exact .c (h.keep hF (fun _ _ => rfl))
  | agg h1 h2 ih =>
    simp only [AV.frz]
    refine .agg (by simpa using h1) fun i x v hx hv => ?_
    simp only [List.getElem?_map, Option.map_eq_some_iff] at hx
    obtain ⟨y, hy, rfl⟩ := hx
    exact ih i y v hy hv
  | tup h1 h2 ih =>
    simp only [AV.frz]
    refine .tup (by simpa using h1) fun i x v hx hv => ?_
    simp only [List.getElem?_map, Option.map_eq_some_iff] at hx
    obtain ⟨y, hy, rfl⟩ := hx
    exact ih i y v hy hv
  | @ref v k off h =>
    simp only [AV.frz]
    split
    · exact .junk
    · rename_i e
      exact .ref fun b n hb => h b n (by rw [← hB k e]; exact hb)
  | @eref v k sz i off h =>
    simp only [AV.frz]
    split
    · exact .junk
    · rename_i e
      exact .eref fun b n hb => h b n (by rw [← hB k e]; exact hb)
  | @lsl v k z off len h =>
    simp only [AV.frz]
    split
    · rename_i e
      subst e
      unfold frzLsl
      split
      · rename_i hc
        obtain ⟨rfl, hc⟩ := hc
        exact .c (hl off len v (.lsl h) hc)
      · exact .junk
    · rename_i e
      exact .lsl fun b n hb => h b n (by rw [← hB k e]; exact hb)
  | fn h1 h2 ih =>
    simp only [AV.frz]
    refine .fn (by simpa using h1) fun i x v hx hv => ?_
    simp only [List.getElem?_map, Option.map_eq_some_iff] at hx
    obtain ⟨y, hy, rfl⟩ := hx
    exact ih i y v hy hv

theorem AV.frz_lo {l sz : Nat} {rows : List (List CV)} : ∀ (x : AV), x.lo U → (x.frz l sz rows).lo U
  | .junk, _ => by simp only [AV.frz, AV.lo]
  | .c _, _ => by simp only [AV.frz, AV.lo]
  | .agg cs, h => by
    simp only [AV.frz, AV.lo] at h ⊢
    intro y hy
    obtain ⟨z, hz, rfl⟩ := List.mem_map.1 hy
    exact AV.frz_lo z (h z hz)
  | .tup cs, h => by
    simp only [AV.frz, AV.lo] at h ⊢
    intro y hy
    obtain ⟨z, hz, rfl⟩ := List.mem_map.1 hy
    exact AV.frz_lo z (h z hz)
  | .ref k _, h => by
    simp only [AV.frz]
    split
    · simp only [AV.lo]
    · exact h
  | .eref k _ _ _, h => by
    simp only [AV.frz]
    split
    · simp only [AV.lo]
    · exact h
  | .lsl k _ _ _, h => by
    simp only [AV.frz]
    split
    · unfold frzLsl; split <;> simp only [AV.lo]
    · exact h
  | .fn f caps, h => by
    simp only [AV.frz, AV.lo] at h ⊢
    intro y hy
    obtain ⟨z, hz, rfl⟩ := List.mem_map.1 hy
    exact AV.frz_lo z (h z hz)

theorem RelB.frz (h : RelB E s a w F B U) (l : Nat) : ∃ F' B', RelB E (s.frz l) a w F' B' U := by
  unfold AState.frz
  cases ho : s.objs l with
  | none => exact ⟨F, B, h⟩
  | some o =>
    cases o with
    | box t cells => exact ⟨F, B, h⟩
    | arr e sz rows =>
      obtain ⟨b, n, hb, hok⟩ := obj_B h ho
      have hF : ∀ k, F k → F k ∨ k = b := fun k hk => .inl hk
      have hB : ∀ k, k ≠ l → (if k = l then none else B k) = B k := fun k e => if_neg e
      have hsub : ∀ k c m, (if k = l then none else B k) = some (c, m) → k ≠ l ∧ B k = some (c, m) := by
        intro k c m hb
        split at hb
        · cases hb
        · exact ⟨‹_›, hb⟩
      have hl : ∀ off len v, ARep w F B v (.lsl l sz off len) → off + len ≤ rows.length → CRep w (fun k => F k ∨ k = b) v (.sl false false sz ((rows.drop off).take len)) := fun off len v hv hle => lsl_frz hb hok hv hle
      refine ⟨fun k => F k ∨ k = b, fun k => if k = l then none else B k, ?_⟩
      refine { size := by simpa [frzAt] using h.size, tmps := ?_, defers := h.defers, live := ?_, objs := ?_, inj := ?_, apart := ?_, flt := ?_, blt := ?_, fsrc := ?_, bsrc := ?_, frame := h.frame, grown := h.grown, os := h.os, tape := h.tape, output := h.output, wfT := ?_, wfO := ?_, anchor := ?_ }
      · intro i x v hx hv
        simp only [frzAt, List.getElem?_map, Option.map_eq_some_iff] at hx
        obtain ⟨y, hy, rfl⟩ := hx
        exact (h.tmps i y v hy hv).frz hF hB hl
      · intro k
        by_cases e : k = l
        · simp [frzAt, upd, e]
        · simp only [frzAt, upd, if_neg e, Option.map_eq_none_iff]; exact h.live k
      · intro k c m o1 hc ho1
        obtain ⟨e, hc⟩ := hsub k c m hc
        simp only [frzAt, upd, if_neg e, Option.map_eq_some_iff] at ho1
        obtain ⟨o2, ho2, rfl⟩ := ho1
        have h0 := h.objs k c m o2 hc ho2
        cases o2 with
        | box t cells =>
          obtain ⟨C, h1, h2, h3⟩ := h0
          refine ⟨C, h1, by simpa using h2, fun j x v hx hv => ?_⟩
          simp only [List.getElem?_map, Option.map_eq_some_iff] at hx
          obtain ⟨y, hy, rfl⟩ := hx
          exact (h3 j y v hy hv).frz hF hB hl
        | arr e' z rs =>
          obtain ⟨C, h1, h2, h3, h3', h4⟩ := h0
          exact ⟨C, h1, h2, h3, h3', fun i row hr => ⟨(h4 i row hr).1, fun j x v hx hv => ((h4 i row hr).2 j x v hx hv).keep hF (fun _ _ => rfl)⟩⟩
      · exact fun k k' c m m' hc hc' => h.inj k k' c m m' (hsub _ _ _ hc).2 (hsub _ _ _ hc').2
      · rintro k c m hc (hf | rfl)
        · exact h.apart k c m (hsub _ _ _ hc).2 hf
        · exact (hsub _ _ _ hc).1 (h.inj k l c m n (hsub _ _ _ hc).2 hb)
      · rintro c (hf | rfl)
        · exact h.flt c hf
        · exact h.blt l c n hb
      · exact fun k c m hc => h.blt k c m (hsub _ _ _ hc).2
      · rintro c (hf | rfl)
        · exact h.fsrc c hf
        · exact .inr (h.bsrc l c n hb)
      · exact fun k c m hc => h.bsrc k c m (hsub _ _ _ hc).2
      · intro x hx
        simp only [frzAt] at hx
        obtain ⟨y, hy, rfl⟩ := List.mem_map.1 hx
        exact AV.frz_lo y (h.wfT y hy)
      · intro k o1 ho1
        by_cases e : k = l
        · simp [frzAt, upd, e] at ho1
        · simp only [frzAt, upd, if_neg e, Option.map_eq_some_iff] at ho1
          obtain ⟨o2, ho2, rfl⟩ := ho1
          refine ⟨(h.wfO k o2 ho2).1, ?_⟩
          have h0 := (h.wfO k o2 ho2).2
          cases o2 with
          | box t cells =>
            intro y hy
            obtain ⟨z, hz, rfl⟩ := List.mem_map.1 hy
            exact AV.frz_lo z (h0 z hz)
          | arr e' z rs => trivial
      · intro p hp
        obtain ⟨h1, h2, h3⟩ := h.anchor p hp
        refine ⟨h1, fun c m hc => h2 c m (hsub _ _ _ hc).2, fun o1 ho1 => ?_⟩
        by_cases e : (0 : Nat) = l
        · subst e; simp [frzAt, upd] at ho1
        · simp only [frzAt, upd, if_neg e, Option.map_eq_some_iff] at ho1
          obtain ⟨o2, ho2, rfl⟩ := ho1
          have := h3 o2 ho2
          cases o2 <;> simp_all [AObj.frz, AObj.isBox]

theorem RelB.frzL : ∀ (ls : List Nat) {s : AState} {F : Nat → Prop} {B : Beta}, RelB E s a w F B U → ∃ F' B', RelB E (s.frzL ls) a w F' B' U
  | [], _, F, B, h => ⟨F, B, h⟩
  | l :: ls, _, _, _, h => by
    obtain ⟨F', B', h'⟩ := h.frz l
    exact RelB.frzL ls h'

end
end Go.Proofs.Ytdglnjgjonbfbaa.Fw
