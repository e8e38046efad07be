/- States that tell less: by forgetting, by freezing, by other names of the objects; loops by them. -/
import Derived.Test.YtnnpjblpiecfdaaFwXb
namespace Go.Proofs.Ytnnpjblpiecfdaa.Fw
open Go.RowKit
set_option linter.unusedVariables false
set_option linter.unusedSimpArgs false

/-- What s0 tells, s tells too. -/
def Wk (s0 s : AState) : Prop := ∀ (E : Entry) (a : Act) (w : World), Rel E s0 a w → Rel E s a w

def renF : List (Nat × Nat) → Nat → Option Nat
  | [], _ => none
  | (a, b) :: L, l => if l = a then some b else renF L l
def renB : List (Nat × Nat) → Nat → Option Nat
  | [], _ => none
  | (a, b) :: L, k => if k = b then some a else renB L k
def okRen (L : List (Nat × Nat)) : Bool := (renF L 0 == some 0) && L.all (fun p => renF L p.1 == some p.2 && renB L p.2 == some p.1)

def AV.ren (L : List (Nat × Nat)) : AV → AV
  | .junk => .junk
  | .c x => .c x
  | .agg cs => .agg (cs.map (AV.ren L))
  | .tup cs => .tup (cs.map (AV.ren L))
  | .ref l off => match renF L l with | some k => .ref k off | none => .junk
  | .eref l sz i off => match renF L l with | some k => .eref k sz i off | none => .junk
  | .lsl l sz off len => match renF L l with | some k => .lsl k sz off len | none => .junk
  | .fn f caps => .fn f (caps.map (AV.ren L))
def AObj.ren (L : List (Nat × Nat)) : AObj → AObj
  | .box t cells => .box t (cells.map (AV.ren L))
  | .arr e sz rows => .arr e sz rows
  | .brr e sz rows => .brr e sz (rows.map fun r => r.map (AV.ren L))
def renO (L : List (Nat × Nat)) (ob : Nat → Option AObj) (k : Nat) : Option AObj := match renB L k with
  | some l => (ob l).map (AObj.ren L)
  | none => none
def AState.ren (s : AState) (L : List (Nat × Nat)) : AState := ⟨s.tmps.map (AV.ren L), renO L s.objs, s.next + (L.map (·.2)).sum + 1⟩

theorem renF_mem : ∀ {L : List (Nat × Nat)} {l k : Nat}, renF L l = some k → (l, k) ∈ L
  | [], _, _, h => by simp [renF] at h
  | (a, b) :: L, l, k, h => by
    simp only [renF] at h
    split at h
    · rename_i e; subst e; cases h; exact List.mem_cons_self
    · exact List.mem_cons_of_mem _ (renF_mem h)
theorem renB_mem : ∀ {L : List (Nat × Nat)} {l k : Nat}, renB L k = some l → (l, k) ∈ L
  | [], _, _, h => by simp [renB] at h
  | (a, b) :: L, l, k, h => by
    simp only [renB] at h
    split at h
    · rename_i e; subst e; cases h; exact List.mem_cons_self
    · exact List.mem_cons_of_mem _ (renB_mem h)
theorem ren_iff {L : List (Nat × Nat)} (h : okRen L = true) (l k : Nat) : renF L l = some k ↔ renB L k = some l := by
  simp only [okRen, Bool.and_eq_true, List.all_eq_true, beq_iff_eq] at h
  exact ⟨fun g => (h.2 _ (renF_mem g)).2, fun g => (h.2 _ (renB_mem g)).1⟩
theorem mem_sum : ∀ {L : List (Nat × Nat)} {l k : Nat}, (l, k) ∈ L → k ≤ (L.map (·.2)).sum
  | [], _, _, h => by simp at h
  | (a, b) :: L, l, k, h => by
    simp only [List.map_cons, List.sum_cons]
    rcases List.mem_cons.1 h with e | e
    · cases e; omega
    · have := mem_sum e; omega

section
variable {P : Program} {T : Tab} {E : Entry} {s : AState} {a : Act} {w : World} {F : Nat → Prop} {B : Beta} {U : Nat → Prop}

theorem ARep.ren {B' : Beta} {L : List (Nat × Nat)} (hB : ∀ l k, renF L l = some k → B' k = B l) {v : Value} {x : AV} (h : ARep w F B v x) : ARep w F B' v (x.ren L) := by
  induction h with
  | junk => simp only [AV.ren]; exact .junk
  | c h => simp only [AV.ren]; exact .c h
  | agg h1 h2 ih =>
    simp only [AV.ren]
    refine .agg (by simpa using h1) fun i x v hx hv => ?_
    simp only [List.getElem?_map, Option.map_eq_some_iff] at hx
    obtain ⟨y, hy, rfl⟩ := hx
    exact ih i y v hy hv
  | tup h1 h2 ih =>
    simp only [AV.ren]
    refine .tup (by simpa using h1) fun i x v hx hv => ?_
    simp only [List.getElem?_map, Option.map_eq_some_iff] at hx
    obtain ⟨y, hy, rfl⟩ := hx
    exact ih i y v hy hv
  | @ref v k off h =>
    simp only [AV.ren]
    split
    · rename_i k' e
      exact .ref fun b n hb => h b n (by rw [← hB _ _ e]; exact hb)
    · exact .junk
  | @eref v k sz i off h =>
    simp only [AV.ren]
    split
    · rename_i k' e
      exact .eref fun b n hb => h b n (by rw [← hB _ _ e]; exact hb)
    · exact .junk
  | @lsl v k sz off len h =>
    simp only [AV.ren]
    split
    · rename_i k' e
      exact .lsl fun b n hb => h b n (by rw [← hB _ _ e]; exact hb)
    · exact .junk
  | fn h1 h2 ih =>
    simp only [AV.ren]
    refine .fn (by simpa using h1) fun i x v hx hv => ?_
    simp only [List.getElem?_map, Option.map_eq_some_iff] at hx
    obtain ⟨y, hy, rfl⟩ := hx
    exact ih i y v hy hv

theorem AV.ren_lo {L : List (Nat × Nat)} {V : Nat → Prop} (hV : ∀ l k, renF L l = some k → U l → V k) : ∀ (x : AV), x.lo U → (x.ren L).lo V
  | .junk, _ => by simp only [AV.ren, AV.lo]
  | .c _, _ => by simp only [AV.ren, AV.lo]
  | .agg cs, h => by
    simp only [AV.ren, AV.lo] at h ⊢
    intro y hy
    obtain ⟨z, hz, rfl⟩ := List.mem_map.1 hy
    exact AV.ren_lo hV z (h z hz)
  | .tup cs, h => by
    simp only [AV.ren, AV.lo] at h ⊢
    intro y hy
    obtain ⟨z, hz, rfl⟩ := List.mem_map.1 hy
    exact AV.ren_lo hV z (h z hz)
  | .ref k _, h => by
    simp only [AV.ren]
    split
    · rename_i e; simp only [AV.lo] at h ⊢; exact hV _ _ e h
    · simp only [AV.lo]
  | .eref k _ _ _, h => by
    simp only [AV.ren]
    split
    · rename_i e; simp only [AV.lo] at h ⊢; exact hV _ _ e h
    · simp only [AV.lo]
  | .lsl k _ _ _, h => by
    simp only [AV.ren]
    split
    · rename_i e; simp only [AV.lo] at h ⊢; exact hV _ _ e h
    · simp only [AV.lo]
  | .fn f caps, h => by
    simp only [AV.ren, AV.lo] at h ⊢
    intro y hy
    obtain ⟨z, hz, rfl⟩ := List.mem_map.1 hy
    exact AV.ren_lo hV z (h z hz)

theorem Wk.refl (s : AState) : Wk s s := fun _ _ _ h => h
theorem Wk.trans {s t u : AState} (h1 : Wk s t) (h2 : Wk t u) : Wk s u := fun E a w h => h2 E a w (h1 E a w h)
theorem Wk.of_le {s t : AState} (h : Le s t) : Wk s t := fun _ _ _ hr => hr.le h
theorem Wk.frz (s : AState) (l : Nat) : Wk s (s.frz l) := by
  rintro E a w ⟨F, B, U, hr, hU⟩
  obtain ⟨F', B', hr'⟩ := hr.frz l
  exact ⟨F', B', U, hr', fun k hk => by rw [show (s.frz l).next = s.next from frzAt_next s l _]; exact hU k hk⟩
theorem Wk.frzL : ∀ (ls : List Nat) (s : AState), Wk s (s.frzL ls)
  | [], s => Wk.refl s
  | l :: ls, s => (Wk.frz s l).trans (Wk.frzL ls _)

/-- An array is told by values that may be local slices, and back. -/
theorem Wk.put (s : AState) {l : Nat} {o o' : AObj} (ho : s.objs l = some o) (hok : ∀ {w : World} {F : Nat → Prop} {B : Beta} {b n : Nat}, ObjOk w F B b n o → ObjOk w F B b n o') (hlo : ∀ {U : Nat → Prop}, o.lo U → o'.lo U) (hbx : o.isBox = true → o'.isBox = true) : Wk s { s with objs := upd s.objs l (some o') } := by
  rintro E a w ⟨F, B, U, hr, hU⟩
  refine ⟨F, B, U, ?_, hU⟩
  refine { hr with live := ?_, objs := ?_, wfO := ?_, anchor := ?_ }
  · intro k
    by_cases e : k = l
    · subst e
      simp only [upd, if_true]
      have := hr.live k
      rw [ho] at this
      simpa using this
    · simp only [upd, if_neg e]; exact hr.live k
  · intro k b n o1 hb ho1
    by_cases e : k = l
    · subst e
      simp only [upd, if_true, Option.some.injEq] at ho1
      subst ho1
      exact hok (hr.objs k b n o hb ho)
    · simp only [upd, if_neg e] at ho1
      exact hr.objs k b n o1 hb ho1
  · intro k o1 ho1
    by_cases e : k = l
    · subst e
      simp only [upd, if_true, Option.some.injEq] at ho1
      subst ho1
      exact ⟨(hr.wfO k o ho).1, hlo (hr.wfO k o ho).2⟩
    · simp only [upd, if_neg e] at ho1
      exact hr.wfO k o1 ho1
  · intro p hp
    exact hr.anchor p hp
def cRows (rows : List (List CV)) : List (List AV) := rows.map fun r => r.map .c
theorem Wk.toB (s : AState) {l e sz : Nat} {rows : List (List CV)} (ho : s.objs l = some (.arr e sz rows)) : Wk s { s with objs := upd s.objs l (some (.brr e sz (cRows rows))) } := by
  refine Wk.put s ho (fun {w F B b n} h => ?_) (fun {U} _ => ?_) (by simp [AObj.isBox])
  · obtain ⟨C, h1, h2, h3, h3', h4⟩ := h
    refine ⟨C, h1, h2, by simpa [cRows] using h3, h3', fun i row hr => ?_⟩
    simp only [cRows, List.getElem?_map, Option.map_eq_some_iff] at hr
    obtain ⟨r, hr', rfl⟩ := hr
    refine ⟨by simpa using (h4 i r hr').1, fun j x v hx hv => ?_⟩
    simp only [List.getElem?_map, Option.map_eq_some_iff] at hx
    obtain ⟨y, hy, rfl⟩ := hx
    exact .c ((h4 i r hr').2 j y v hy hv)
  · intro row hr x hx
    obtain ⟨r, hr', rfl⟩ := List.mem_map.1 hr
    obtain ⟨y, hy, rfl⟩ := List.mem_map.1 hx
    simp only [AV.lo]
theorem Wk.ofB (s : AState) {l e sz : Nat} {rows : List (List CV)} (ho : s.objs l = some (.brr e sz (cRows rows))) : Wk s { s with objs := upd s.objs l (some (.arr e sz rows)) } := by
  refine Wk.put s ho (fun {w F B b n} h => ?_) (fun {U} _ => trivial) (by simp [AObj.isBox])
  obtain ⟨C, h1, h2, h3, h3', h4⟩ := h
  refine ⟨C, h1, h2, by simpa [cRows] using h3, h3', fun i row hr => ?_⟩
  have h5 := h4 i (row.map .c) (by simp [cRows, hr])
  refine ⟨by simpa using h5.1, fun j x v hx hv => ?_⟩
  have h6 := h5.2 j (.c x) v (by simp [hx]) hv
  cases h6 with | c h6 => exact h6

theorem Wk.ren (s : AState) (L : List (Nat × Nat)) (hL : okRen L = true) : Wk s (s.ren L) := by
  rintro E a w ⟨F, B, U, hr, hU⟩
  have hi := ren_iff hL
  have h00 : renB L 0 = some 0 := by
    refine (hi 0 0).1 ?_
    simp only [okRen, Bool.and_eq_true, beq_iff_eq] at hL
    exact hL.1
  have hB : ∀ l k, renF L l = some k → (match renB L k with | some l => B l | none => none) = B l := by
    intro l k e
    rw [(hi l k).1 e]
  have hsub : ∀ k b n, (match renB L k with | some l => B l | none => none) = some (b, n) → ∃ l, renB L k = some l ∧ B l = some (b, n) := by
    intro k b n hb
    split at hb
    · exact ⟨_, ‹_›, hb⟩
    · cases hb
  have hV : ∀ l k, renF L l = some k → U l → (∃ l, renB L k = some l ∧ U l) := fun l k e hl => ⟨l, (hi l k).1 e, hl⟩
  refine ⟨F, fun k => match renB L k with | some l => B l | none => none, fun k => ∃ l, renB L k = some l ∧ U l, ?_, ?_⟩
  · refine { size := by simpa [AState.ren] using hr.size, tmps := ?_, defers := hr.defers, live := ?_, objs := ?_, inj := ?_, apart := ?_, flt := hr.flt, blt := ?_, fsrc := hr.fsrc, bsrc := ?_, frame := hr.frame, grown := hr.grown, os := hr.os, tape := hr.tape, output := hr.output, wfT := ?_, wfO := ?_, anchor := ?_ }
    · intro i x v hx hv
      simp only [AState.ren, List.getElem?_map, Option.map_eq_some_iff] at hx
      obtain ⟨y, hy, rfl⟩ := hx
      exact (hr.tmps i y v hy hv).ren hB
    · intro k
      simp only [AState.ren, renO]
      cases renB L k with
      | none => simp
      | some l => simp only [Option.map_eq_none_iff]; exact hr.live l
    · intro k b n o hb ho
      obtain ⟨l, e, hb⟩ := hsub k b n hb
      simp only [AState.ren, renO, e, Option.map_eq_some_iff] at ho
      obtain ⟨o2, ho2, rfl⟩ := ho
      have h0 := hr.objs l b n o2 hb ho2
      cases o2 with
      | box t cells =>
        obtain ⟨C, g1, g2, g3⟩ := h0
        refine ⟨C, g1, by simpa using g2, fun j x v hx hv => ?_⟩
        simp only [List.getElem?_map, Option.map_eq_some_iff] at hx
        obtain ⟨y, hy, rfl⟩ := hx
        exact (g3 j y v hy hv).ren hB
      | arr e' z rs => exact h0
      | brr e' z rs =>
        obtain ⟨C, g1, g2, g3, g3', g4⟩ := h0
        refine ⟨C, g1, g2, by simpa using g3, g3', fun i row hr => ?_⟩
        simp only [List.getElem?_map, Option.map_eq_some_iff] at hr
        obtain ⟨r, hr', rfl⟩ := hr
        refine ⟨by simpa using (g4 i r hr').1, fun j x v hx hv => ?_⟩
        simp only [List.getElem?_map, Option.map_eq_some_iff] at hx
        obtain ⟨y, hy, rfl⟩ := hx
        exact ((g4 i r hr').2 j y v hy hv).ren hB
    · intro k k' b n n' hb hb'
      obtain ⟨l, e, hb⟩ := hsub k b n hb
      obtain ⟨l', e', hb'⟩ := hsub k' b n' hb'
      have := hr.inj l l' b n n' hb hb'
      subst this
      have h1 := (hi l k).2 e
      rw [(hi l k').2 e'] at h1
      cases h1; rfl
    · intro k b n hb
      obtain ⟨l, e, hb⟩ := hsub k b n hb
      exact hr.apart l b n hb
    · intro k b n hb
      obtain ⟨l, e, hb⟩ := hsub k b n hb
      exact hr.blt l b n hb
    · intro k b n hb
      obtain ⟨l, e, hb⟩ := hsub k b n hb
      exact hr.bsrc l b n hb
    · intro x hx
      simp only [AState.ren] at hx
      obtain ⟨y, hy, rfl⟩ := List.mem_map.1 hx
      exact AV.ren_lo hV y (hr.wfT y hy)
    · intro k o ho
      simp only [AState.ren, renO] at ho
      split at ho
      · rename_i l e
        simp only [Option.map_eq_some_iff] at ho
        obtain ⟨o2, ho2, rfl⟩ := ho
        refine ⟨⟨l, e, (hr.wfO l o2 ho2).1⟩, ?_⟩
        have h0 := (hr.wfO l o2 ho2).2
        cases o2 with
        | box t cells =>
          intro y hy
          obtain ⟨z, hz, rfl⟩ := List.mem_map.1 hy
          exact AV.ren_lo hV z (h0 z hz)
        | arr e' z rs => trivial
        | brr e' z rs =>
          intro row hr x hx
          obtain ⟨r, hr', rfl⟩ := List.mem_map.1 hr
          obtain ⟨y, hy, rfl⟩ := List.mem_map.1 hx
          exact AV.ren_lo hV y (h0 r hr' y hy)
      · cases ho
    · intro p hp
      obtain ⟨g1, g2⟩ := hr.anchor p hp
      refine ⟨⟨0, h00, g1⟩, fun b n hb => ?_⟩
      obtain ⟨l, e, hb⟩ := hsub 0 b n hb
      rw [h00] at e
      cases e
      exact g2 b n hb
  · rintro k ⟨l, e, hl⟩
    have := mem_sum (renB_mem e)
    simp only [AState.ren]
    omega

theorem AWP.weakenW {c : Code} {Q : APost} {s0 s : AState} (hle : Wk s0 s) (h : AWP P E c Q s) : AWP P E c Q s0 := fun a w hr => h a w (hle E a w hr)

theorem AWP.loopW {c : Code} {Q : APost} {ι : Type} (I : ι → AState) (μ : ι → Nat) (i0 : ι) (h0 : Wk s (I i0)) (round : ∀ i, AWP P E c (athen (fun s' => ∃ i', Wk s' (I i') ∧ μ i' < μ i) Q) (I i)) : AWP P E (.loop c) Q s := by
  intro a w hr
  have key : ∀ n i, μ i = n → ∀ a w, Rel E (I i) a w → (Code.loop c).wp P (fun e a' w' => ∃ s', Q e s' ∧ Rel E s' a' w') a w := by
    intro n i hi a w hri
    refine wp_loop (fun a w => ∃ i, Rel E (I i) a w) (fun a w => Classical.epsilon fun n => ∃ i, Rel E (I i) a w ∧ μ i = n ∧ ∀ j, Rel E (I j) a w → n ≤ μ j) ⟨i, hri⟩ ?_
    intro a w ⟨i, hri⟩
    have least : ∀ a w n, (∃ i, Rel E (I i) a w ∧ μ i = n) → ∃ n, ∃ i, Rel E (I i) a w ∧ μ i = n ∧ ∀ j, Rel E (I j) a w → n ≤ μ j := by
      intro a w n
      induction n using Nat.strongRecOn with
      | _ n ih =>
        rintro ⟨i, h1, h2⟩
        by_cases hx : ∃ j, Rel E (I j) a w ∧ μ j < n
        · obtain ⟨j, h3, h4⟩ := hx
          exact ih (μ j) h4 ⟨j, h3, rfl⟩
        · refine ⟨n, i, h1, h2, fun j hj => ?_⟩
          rcases Nat.lt_or_ge (μ j) n with q | q
          · exact absurd ⟨j, hj, q⟩ hx
          · exact q
    obtain ⟨j, hj1, hj2, hj3⟩ := Classical.epsilon_spec (least a w _ ⟨i, hri, rfl⟩)
    refine wp_mono (round j a w hj1) ?_
    rintro e a' w' ⟨s', h1, h2⟩
    cases e <;> first
      | exact ⟨s', h1, h2⟩
      | (obtain ⟨i', h3, h4⟩ := h1
         have hr' := h3 E a' w' h2
         refine ⟨⟨i', hr'⟩, ?_⟩
         obtain ⟨k, hk1, hk2, hk3⟩ := Classical.epsilon_spec (least a' w' _ ⟨i', hr', rfl⟩)
         have := hk3 i' hr'
         rw [hj2] at h4
         exact Nat.lt_of_le_of_lt this h4)
  exact key _ i0 rfl a w (h0 E a w hr)

end
end Go.Proofs.Ytnnpjblpiecfdaa.Fw
