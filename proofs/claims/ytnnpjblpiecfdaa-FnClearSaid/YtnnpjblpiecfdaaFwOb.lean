/- A local object is laid open: from here on it is only read. -/
import Derived.Test.YtnnpjblpiecfdaaFwOa
namespace Go.Proofs.Ytnnpjblpiecfdaa.Fw
open Go.RowKit
set_option linter.unusedVariables false
set_option linter.unusedSimpArgs false

def frzLsl (z off len sz : Nat) (rows : List (List CV)) : AV := if z = sz ∧ off + len ≤ rows.length then .c (.sl true false z ((rows.drop off).take len)) else .junk

def fzRef (off : Nat) : AObj → AV
  | .box _ cells => match toCVs cells with | some cs => .c (.rp (cs.drop off)) | none => .junk
  | _ => .junk
def fzEref (z i off : Nat) : AObj → AV
  | .arr _ sz rows => if z = sz then (match rows[i]? with | some row => .c (.rp (row.drop off)) | none => .junk) else .junk
  | _ => .junk
def fzLsl (z off len : Nat) : AObj → AV
  | .arr _ sz rows => frzLsl z off len sz rows
  | _ => .junk
/-- The value, where object l is closed data from here on. -/
def AV.fz (l : Nat) (o : AObj) : AV → AV
  | .junk => .junk
  | .c x => .c x
  | .agg cs => .agg (cs.map (AV.fz l o))
  | .tup cs => .tup (cs.map (AV.fz l o))
  | .ref k off => if k = l then fzRef off o else .ref k off
  | .eref k z i off => if k = l then fzEref z i off o else .eref k z i off
  | .lsl k z off len => if k = l then fzLsl z off len o else .lsl k z off len
  | .fn f caps => .fn f (caps.map (AV.fz l o))
def AObj.fz (l : Nat) (o : AObj) : AObj → AObj
  | .box t cells => .box t (cells.map (AV.fz l o))
  | .arr e z rs => .arr e z rs
  | .brr e z rs => .brr e z (rs.map fun r => r.map (AV.fz l o))
def fzAt (s : AState) (l : Nat) : Option AObj → AState
  | some o => if l = 0 then s else ⟨s.tmps.map (AV.fz l o), upd (fun k => (s.objs k).map (AObj.fz l o)) l none, s.next⟩
  | none => s
def fzVs (l : Nat) (xs : List AV) : Option AObj → List AV
  | some o => if l = 0 then xs else xs.map (AV.fz l o)
  | none => xs
theorem fzAt_next (s : AState) (l : Nat) (o : Option AObj) : (fzAt s l o).next = s.next := by
  unfold fzAt; split <;> (try split) <;> rfl
/-- Several objects, one after another; some values alongside. -/
def fzL : AState → List AV → List Nat → AState × List AV
  | s, xs, [] => (s, xs)
  | s, xs, l :: ls => fzL (fzAt s l (s.objs l)) (fzVs l xs (s.objs l)) ls
theorem fzL_next : ∀ (ls : List Nat) (s : AState) (xs : List AV), (fzL s xs ls).1.next = s.next
  | [], _, _ => rfl
  | l :: ls, s, xs => (fzL_next ls _ _).trans (fzAt_next s l _)

section
variable {P : Program} {T : Tab} {E : Entry} {s : AState} {a : Act} {w : World} {F : Nat → Prop} {B : Beta} {U : Nat → Prop}

theorem lsl_frz {l b n e sz : Nat} {rows : List (List CV)} (hb : B l = some (b, n)) (hok : ObjOk w F B b n (.arr e sz rows)) {off len : Nat} {v : Value} (hx : ARep w F B v (.lsl l sz off len)) (hfit : off + len ≤ rows.length) :
    CRep w (fun k => F k ∨ k = b) v (.sl true false sz ((rows.drop off).take len)) := by
  obtain ⟨C, hC, hCs, hrl, _, hCr⟩ := hok
  cases hx with | lsl hx =>
  obtain ⟨hle, ad, rfl, had⟩ := hx b n hb
  have hlen : ((rows.drop off).take len).length = len := by simp only [List.length_take, List.length_drop]; omega
  have hrow : ∀ i row, ((rows.drop off).take len)[i]? = some row → i < len ∧ rows[off + i]? = some row := by
    intro i row hr
    rw [List.getElem?_take] at hr
    split at hr
    · rw [List.getElem?_drop] at hr
      exact ⟨‹_›, hr⟩
    · cases hr
  have hget : ∀ i j row, rows[off + i]? = some row → j < row.length → C[(off + i) * sz + j]? = some (C.getD ((off + i) * sz + j) undef) := by
    intro i j row hr hj
    have h1 := (hCr _ _ hr).1
    have h2 : off + i < rows.length := (List.getElem?_eq_some_iff.1 hr).1
    have : (off + i + 1) * sz ≤ n * sz := Nat.mul_le_mul_right _ (by omega)
    rw [Nat.add_mul _ 1] at this
    have hlt : (off + i) * sz + j < C.size := by omega
    simp [Array.getD_eq_getD_getElem?, Array.getElem?_eq_getElem hlt]
  refine .sl (fun i j => C.getD ((off + i) * sz + j) undef) hlen.symm (by omega) (by simp) (fun i row hr j x hx => ⟨.inr ?_, ?_⟩) (fun i row hr j x hx => ?_)
  · obtain ⟨h1, h2⟩ := hrow i row hr
    rw [had (.inl (by omega))]
  · obtain ⟨h1, h2⟩ := hrow i row hr
    rw [had (.inl (by omega)), add_plain, cell_blk hC, ← Nat.add_assoc, ← Nat.add_mul]
    exact hget i j row h2 (List.getElem?_eq_some_iff.1 hx).1
  · obtain ⟨h1, h2⟩ := hrow i row hr
    exact ((hCr _ _ h2).2 j x _ hx (hget i j row h2 (List.getElem?_eq_some_iff.1 hx).1)).keep (fun _ h => .inl h) (fun _ _ => rfl)


theorem arep_c {v : Value} {x : CV} (h : ARep w F B v (.c x)) : CRep w F v x := by cases h with | c h => exact h
theorem ref_fz {l b n : Nat} {o : AObj} (hb : B l = some (b, n)) (hok : ObjOk w F B b n o) {off : Nat} {v : Value} {B' : Beta} (hx : ARep w F B v (.ref l off)) : ARep w (fun k => F k ∨ k = b) B' v (fzRef off o) := by
  cases o with
  | box t cells =>
    simp only [fzRef]
    split
    · rename_i cs hcs
      obtain ⟨C, hC, hCs, hCr⟩ := hok
      have hcv := toCVs_some hcs
      cases hx with | ref hx =>
      rw [hx b n hb]
      have hget : ∀ j, off + j < cs.length → C[off + j]? = some (C.getD (off + j) undef) := by
        intro j hj
        have : off + j < C.size := by rw [hCs, hcv, List.length_map]; exact hj
        simp [Array.getD_eq_getD_getElem?, Array.getElem?_eq_getElem this]
      refine .c (.rp (fun j => C.getD (off + j) undef) (fun j x hx => ⟨.inr rfl, ?_⟩) (fun j x hx => ?_))
      · rw [add_plain, cell_blk hC]
        rw [List.getElem?_drop] at hx
        exact hget j (List.getElem?_eq_some_iff.1 hx).1
      · rw [List.getElem?_drop] at hx
        exact (arep_c (hCr (off + j) (.c x) _ (by rw [hcv, List.getElem?_map, hx]; rfl) (hget j (List.getElem?_eq_some_iff.1 hx).1))).keep (fun _ h => .inl h) (fun _ _ => rfl)
    · exact .junk
  | arr e sz rows => exact .junk
  | brr e sz rows => exact .junk

theorem eref_fz {l b n : Nat} {o : AObj} (hb : B l = some (b, n)) (hok : ObjOk w F B b n o) {z i off : Nat} {v : Value} {B' : Beta} (hx : ARep w F B v (.eref l z i off)) : ARep w (fun k => F k ∨ k = b) B' v (fzEref z i off o) := by
  cases o with
  | box t cells => exact .junk
  | brr e sz rows => exact .junk
  | arr e sz rows =>
    simp only [fzEref]
    split
    · rename_i hz
      subst hz
      split
      · rename_i row hrow
        obtain ⟨C, hC, hCs, hrl, _, hCr⟩ := hok
        cases hx with | eref hx =>
        rw [hx b n hb]
        obtain ⟨hrs, hcell⟩ := hCr i row hrow
        have hi : i < rows.length := (List.getElem?_eq_some_iff.1 hrow).1
        have hfit : i * z + z ≤ C.size := by
          rw [hCs]
          have : (i + 1) * z ≤ n * z := Nat.mul_le_mul_right _ (by omega)
          rw [Nat.add_mul] at this
          omega
        have hget : ∀ j, off + j < row.length → C[i * z + off + j]? = some (C.getD (i * z + off + j) undef) := by
          intro j hj
          have : i * z + off + j < C.size := by omega
          simp [Array.getD_eq_getD_getElem?, Array.getElem?_eq_getElem this]
        refine .c (.rp (fun j => C.getD (i * z + off + j) undef) (fun j x hx => ⟨.inr rfl, ?_⟩) (fun j x hx => ?_))
        · rw [add_plain, cell_blk hC]
          rw [List.getElem?_drop] at hx
          exact hget j (List.getElem?_eq_some_iff.1 hx).1
        · rw [List.getElem?_drop] at hx
          refine (hcell (off + j) x _ hx ?_).keep (fun _ h => .inl h) (fun _ _ => rfl)
          rw [← Nat.add_assoc]
          exact hget j (List.getElem?_eq_some_iff.1 hx).1
      · exact .junk
    · exact .junk

theorem lslv_fz {l b n : Nat} {o : AObj} (hb : B l = some (b, n)) (hok : ObjOk w F B b n o) {z off len : Nat} {v : Value} {B' : Beta} (hx : ARep w F B v (.lsl l z off len)) : ARep w (fun k => F k ∨ k = b) B' v (fzLsl z off len o) := by
  cases o with
  | box t cells => exact .junk
  | brr e sz rows => exact .junk
  | arr e sz rows =>
    simp only [fzLsl, frzLsl]
    split
    · rename_i hc
      obtain ⟨rfl, hc⟩ := hc
      exact .c (lsl_frz hb hok hx hc)
    · exact .junk

theorem ARep.fz {F' : Nat → Prop} {B' : Beta} {l : Nat} {o : AObj} (hF : ∀ b, F b → F' b) (hB : ∀ k, k ≠ l → B' k = B k)
    (h1 : ∀ off v, ARep w F B v (.ref l off) → ARep w F' B' v (fzRef off o)) (h2 : ∀ z i off v, ARep w F B v (.eref l z i off) → ARep w F' B' v (fzEref z i off o)) (h3 : ∀ z off len v, ARep w F B v (.lsl l z off len) → ARep w F' B' v (fzLsl z off len o))
    {v : Value} {x : AV} (h : ARep w F B v x) : ARep w F' B' v (x.fz l o) := by
  induction h with
  | junk => simp only [AV.fz]; exact .junk
  | c h => simp only [AV.fz]; exact .c (h.keep hF (fun _ _ => rfl))
  | agg g1 g2 ih =>
    simp only [AV.fz]
    refine .agg (by simpa using g1) fun i x v hx hv => ?_
    simp only [List.getElem?_map, Option.map_eq_some_iff] at hx
    obtain ⟨y, hy, rfl⟩ := hx
    exact ih i y v hy hv
  | tup g1 g2 ih =>
    simp only [AV.fz]
    refine .tup (by simpa using g1) fun i x v hx hv => ?_
    simp only [List.getElem?_map, Option.map_eq_some_iff] at hx
    obtain ⟨y, hy, rfl⟩ := hx
    exact ih i y v hy hv
  | @ref v k off h =>
    simp only [AV.fz]
    split
    · rename_i e; subst e; exact h1 off v (.ref h)
    · rename_i e
      exact .ref fun b n hb => h b n (by rw [← hB k e]; exact hb)
  | @eref v k z i off h =>
    simp only [AV.fz]
    split
    · rename_i e; subst e; exact h2 z i off v (.eref h)
    · rename_i e
      exact .eref fun b n hb => h b n (by rw [← hB k e]; exact hb)
  | @lsl v k z off len h =>
    simp only [AV.fz]
    split
    · rename_i e; subst e; exact h3 z off len v (.lsl h)
    · rename_i e
      exact .lsl fun b n hb => h b n (by rw [← hB k e]; exact hb)
  | fn g1 g2 ih =>
    simp only [AV.fz]
    refine .fn (by simpa using g1) fun i x v hx hv => ?_
    simp only [List.getElem?_map, Option.map_eq_some_iff] at hx
    obtain ⟨y, hy, rfl⟩ := hx
    exact ih i y v hy hv

theorem fzRef_lo (off : Nat) (o : AObj) : (fzRef off o).lo U := by
  cases o <;> simp only [fzRef] <;> (try split) <;> simp only [AV.lo]
theorem fzEref_lo (z i off : Nat) (o : AObj) : (fzEref z i off o).lo U := by
  cases o <;> simp only [fzEref] <;> (repeat' split) <;> simp only [AV.lo]
theorem fzLsl_lo (z off len : Nat) (o : AObj) : (fzLsl z off len o).lo U := by
  cases o <;> simp only [fzLsl, frzLsl] <;> (try split) <;> simp only [AV.lo]
theorem AV.fz_lo {l : Nat} {o : AObj} : ∀ (x : AV), x.lo U → (x.fz l o).lo U
  | .junk, _ => by simp only [AV.fz, AV.lo]
  | .c _, _ => by simp only [AV.fz, AV.lo]
  | .agg cs, h => by
    simp only [AV.fz, AV.lo] at h ⊢
    intro y hy
    obtain ⟨z, hz, rfl⟩ := List.mem_map.1 hy
    exact AV.fz_lo z (h z hz)
  | .tup cs, h => by
    simp only [AV.fz, AV.lo] at h ⊢
    intro y hy
    obtain ⟨z, hz, rfl⟩ := List.mem_map.1 hy
    exact AV.fz_lo z (h z hz)
  | .ref k _, h => by
    simp only [AV.fz]
    split
    · exact fzRef_lo _ _
    · exact h
  | .eref k _ _ _, h => by
    simp only [AV.fz]
    split
    · exact fzEref_lo _ _ _ _
    · exact h
  | .lsl k _ _ _, h => by
    simp only [AV.fz]
    split
    · exact fzLsl_lo _ _ _ _
    · exact h
  | .fn f caps, h => by
    simp only [AV.fz, AV.lo] at h ⊢
    intro y hy
    obtain ⟨z, hz, rfl⟩ := List.mem_map.1 hy
    exact AV.fz_lo z (h z hz)

theorem RelB.fz (h : RelB E s a w F B U) (l : Nat) (xs : List AV) (vs : List Value) (hr : ∀ (i : Nat) x v, xs[i]? = some x → vs[i]? = some v → ARep w F B v x) :
    ∃ F' B', RelB E (fzAt s l (s.objs l)) a w F' B' U ∧ ∀ (i : Nat) x v, (fzVs l xs (s.objs l))[i]? = some x → vs[i]? = some v → ARep w F' B' v x := by
  cases ho : s.objs l with
  | none => exact ⟨F, B, h, hr⟩
  | some o =>
    by_cases hl0 : l = 0
    · simp only [fzAt, fzVs, if_pos hl0]; exact ⟨F, B, h, hr⟩
    simp only [fzAt, fzVs, if_neg hl0]
    obtain ⟨b, n, hb, hok⟩ := obj_B h ho
    have hF : ∀ k, F k → F k ∨ k = b := fun k hk => .inl hk
    have hB : ∀ k, k ≠ l → (if k = l then none else B k) = B k := fun k e => if_neg e
    have hsub : ∀ k c m, (if k = l then none else B k) = some (c, m) → k ≠ l ∧ B k = some (c, m) := by
      intro k c m hb
      split at hb
      · cases hb
      · exact ⟨‹_›, hb⟩
    have hfz : ∀ {v : Value} {x : AV}, ARep w F B v x → ARep w (fun k => F k ∨ k = b) (fun k => if k = l then none else B k) v (x.fz l o) := fun hv =>
      hv.fz hF hB (fun off v => ref_fz hb hok) (fun z i off v => eref_fz hb hok) (fun z off len v => lslv_fz hb hok)
    refine ⟨fun k => F k ∨ k = b, fun k => if k = l then none else B k, ?_, ?_⟩
    refine { size := by simpa using h.size, tmps := ?_, defers := h.defers, live := ?_, objs := ?_, inj := ?_, apart := ?_, flt := ?_, blt := ?_, fsrc := ?_, bsrc := ?_, frame := h.frame, grown := h.grown, os := h.os, tape := h.tape, output := h.output, wfT := ?_, wfO := ?_, anchor := ?_ }
    · intro i x v hx hv
      simp only [List.getElem?_map, Option.map_eq_some_iff] at hx
      obtain ⟨y, hy, rfl⟩ := hx
      exact hfz (h.tmps i y v hy hv)
    · intro k
      by_cases e : k = l
      · simp [upd, e]
      · simp only [upd, if_neg e, Option.map_eq_none_iff]; exact h.live k
    · intro k c m o1 hc ho1
      obtain ⟨e, hc⟩ := hsub k c m hc
      simp only [upd, if_neg e, Option.map_eq_some_iff] at ho1
      obtain ⟨o2, ho2, rfl⟩ := ho1
      have h0 := h.objs k c m o2 hc ho2
      cases o2 with
      | box t cells =>
        obtain ⟨C, h1, h2, h3⟩ := h0
        refine ⟨C, h1, by simpa using h2, fun j x v hx hv => ?_⟩
        simp only [List.getElem?_map, Option.map_eq_some_iff] at hx
        obtain ⟨y, hy, rfl⟩ := hx
        exact hfz (h3 j y v hy hv)
      | arr e' z rs =>
        obtain ⟨C, h1, h2, h3, h3', h4⟩ := h0
        exact ⟨C, h1, h2, h3, h3', fun i row hr => ⟨(h4 i row hr).1, fun j x v hx hv => ((h4 i row hr).2 j x v hx hv).keep hF (fun _ _ => rfl)⟩⟩
      | brr e' z rs =>
        obtain ⟨C, h1, h2, h3, h3', h4⟩ := h0
        refine ⟨C, h1, h2, by simpa using h3, h3', fun i row hr => ?_⟩
        simp only [List.getElem?_map, Option.map_eq_some_iff] at hr
        obtain ⟨r, hr', rfl⟩ := hr
        refine ⟨by simpa using (h4 i r hr').1, fun j x v hx hv => ?_⟩
        simp only [List.getElem?_map, Option.map_eq_some_iff] at hx
        obtain ⟨y, hy, rfl⟩ := hx
        exact hfz ((h4 i r hr').2 j y v hy hv)
    · exact fun k k' c m m' hc hc' => h.inj k k' c m m' (hsub _ _ _ hc).2 (hsub _ _ _ hc').2
    · rintro k c m hc (hf | rfl)
      · exact h.apart k c m (hsub _ _ _ hc).2 hf
      · exact (hsub _ _ _ hc).1 (h.inj k l c m n (hsub _ _ _ hc).2 hb)
    · rintro c (hf | rfl)
      · exact h.flt c hf
      · exact h.blt l c n hb
    · exact fun k c m hc => h.blt k c m (hsub _ _ _ hc).2
    · rintro c (hf | rfl)
      · exact h.fsrc c hf
      · exact .inr (h.bsrc l c n hb)
    · exact fun k c m hc => h.bsrc k c m (hsub _ _ _ hc).2
    · intro x hx
      obtain ⟨y, hy, rfl⟩ := List.mem_map.1 hx
      exact AV.fz_lo y (h.wfT y hy)
    · intro k o1 ho1
      by_cases e : k = l
      · simp [upd, e] at ho1
      · simp only [upd, if_neg e, Option.map_eq_some_iff] at ho1
        obtain ⟨o2, ho2, rfl⟩ := ho1
        refine ⟨(h.wfO k o2 ho2).1, ?_⟩
        have h0 := (h.wfO k o2 ho2).2
        cases o2 with
        | box t cells =>
          intro y hy
          obtain ⟨z, hz, rfl⟩ := List.mem_map.1 hy
          exact AV.fz_lo z (h0 z hz)
        | arr e' z rs => trivial
        | brr e' z rs =>
          intro row hr x hx
          obtain ⟨r, hr', rfl⟩ := List.mem_map.1 hr
          obtain ⟨y, hy, rfl⟩ := List.mem_map.1 hx
          exact AV.fz_lo y (h0 r hr' y hy)
    · intro p hp
      obtain ⟨h1, h2⟩ := h.anchor p hp
      exact ⟨h1, fun c m hc => h2 c m (hsub _ _ _ hc).2⟩
    · intro i x v hx hv
      simp only [List.getElem?_map, Option.map_eq_some_iff] at hx
      obtain ⟨y, hy, rfl⟩ := hx
      exact hfz (hr i y v hy hv)

theorem RelB.fzL : ∀ (ls : List Nat) {s : AState} {F : Nat → Prop} {B : Beta} {xs : List AV} {vs : List Value}, RelB E s a w F B U → (∀ (i : Nat) x v, xs[i]? = some x → vs[i]? = some v → ARep w F B v x) → vs.length = xs.length →
    ∃ F' B', RelB E (fzL s xs ls).1 a w F' B' U ∧ (∀ (i : Nat) x v, (fzL s xs ls).2[i]? = some x → vs[i]? = some v → ARep w F' B' v x) ∧ vs.length = (fzL s xs ls).2.length
  | [], _, F, B, _, _, h, hr, hl => ⟨F, B, h, hr, hl⟩
  | l :: ls, s, _, _, xs, vs, h, hr, hl => by
    obtain ⟨F', B', h', hr'⟩ := h.fz l xs vs hr
    refine RelB.fzL ls h' hr' ?_
    rw [hl]
    unfold fzVs
    split <;> (try split) <;> simp

end
end Go.Proofs.Ytnnpjblpiecfdaa.Fw
