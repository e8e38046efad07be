/- What changes memory: new objects, stores, appends; how the relation goes along. -/
import Derived.Test.YtnnpjblpiecfdaaFwG
namespace Go.Proofs.Ytnnpjblpiecfdaa.Fw
open Go.RowKit

def upd (f : Nat → Option AObj) (l : Nat) (o : Option AObj) : Nat → Option AObj := fun k => if k = l then o else f k

theorem upd_same (f : Nat → Option AObj) (l : Nat) (o : Option AObj) : upd f l o l = o := by simp [upd]
theorem upd_ne (f : Nat → Option AObj) {l k : Nat} (o : Option AObj) (h : k ≠ l) : upd f l o k = f k := by simp [upd, h]

def AV.kill (l : Nat) : AV → AV
  | .junk => .junk
  | .c x => .c x
  | .agg cs => .agg (cs.map (AV.kill l))
  | .tup cs => .tup (cs.map (AV.kill l))
  | .ref k off => if k = l then .junk else .ref k off
  | .eref k sz i off => if k = l then .junk else .eref k sz i off
  | .lsl k sz off len => if k = l then .junk else .lsl k sz off len
  | .fn f caps => .fn f (caps.map (AV.kill l))

def AObj.kill (l : Nat) : AObj → AObj
  | .box t cells => .box t (cells.map (AV.kill l))
  | .arr e sz rows => .arr e sz rows
  | .brr e sz rows => .brr e sz (rows.map fun r => r.map (AV.kill l))

inductive Eff where
  | no
  | new (o : AObj)
  | put (l : Nat) (o : AObj)
  | app (l : Nat) (o : AObj)

def AState.eff (s : AState) (nid : Nat) : Eff → AState
  | .no => s
  | .new o => { s with objs := upd s.objs nid (some o) }
  | .put l o => { s with objs := upd s.objs l (some o) }
  | .app l o => { s with tmps := s.tmps.map (AV.kill l), objs := upd (fun k => (s.objs k).map (AObj.kill l)) l (some o) }

def AState.put (s : AState) (dst : Option Tmp) (x : AV) : AState :=
  match dst with
  | some d => { s with tmps := s.tmps.set d x }
  | none => s

section
variable {P : Program} {T : Tab} {E : Entry} {s : AState} {a : Act} {w : World} {F : Nat → Prop} {B : Beta} {U : Nat → Prop}

theorem RelB.put (h : RelB E s a w F B U) {dst : Option Tmp} {x : AV} {v : Value} (hx : ARep w F B v x) (hlo : x.lo U) : RelB E (s.put dst x) (a.put dst v) w F B U := by
  cases dst with
  | none => exact h
  | some d =>
    refine { h with size := by simp [Act.put, AState.put, h.size], tmps := ?_, wfT := ?_, defers := h.defers }
    · intro i y u hy hu
      simp only [AState.put, List.getElem?_set] at hy
      simp only [Act.put, Array.getElem?_setIfInBounds] at hu
      split at hy
      · rename_i e
        subst e
        rw [if_pos rfl] at hu
        split at hy <;> split at hu <;> first
          | (cases hu; done)
          | (cases hy; done)
          | (cases hy; cases hu; exact hx)
      · rename_i e
        rw [if_neg e] at hu
        exact h.tmps i y u hy hu
    · intro y hy
      simp only [AState.put] at hy
      rcases List.mem_or_eq_of_mem_set hy with hy | rfl
      · exact h.wfT y hy
      · exact hlo

theorem RelB.new (h : RelB E s a w F B U) {nid n : Nat} (hn : ¬ U nid) {C : Array Value} {t : TypeId} {o : AObj} (hok : ObjOk (w.alloc (.cells C t)) F B w.heap.size n o) (ho : o.lo U) :
    RelB E (s.eff nid (.new o)) a (w.alloc (.cells C t)) F (fun l => if l = nid then some (w.heap.size, n) else B l) (fun l => U l ∨ l = nid) := by
  have hF : ∀ b, F b → (w.alloc (.cells C t)).heap[b]? = w.heap[b]? := fun b hb => Below.heap_alloc w _ b (h.flt b hb)
  have hB : ∀ l, U l → (if l = nid then some (w.heap.size, n) else B l) = B l ∨ (if l = nid then some (w.heap.size, n) else B l) = none := fun l hl => .inl (if_neg fun (e : l = nid) => hn (e ▸ hl))
  have hsz : (w.alloc (.cells C t)).heap.size = w.heap.size + 1 := by simp
  constructor
  case size => exact h.size
  case defers => exact h.defers
  case os => exact h.os
  case tape => exact h.tape
  case output => exact h.output
  case tmps => exact fun i x v hx hv => (h.tmps i x v hx hv).keep (fun _ h => h) hF hB (h.wfT x (List.mem_of_getElem? hx))
  case live =>
    intro l
    by_cases e : l = nid
    · simp [AState.eff, upd, e]
    · simp only [AState.eff, upd, if_neg e]; exact h.live l
  case objs =>
    intro l b m o' hb ho'
    by_cases e : l = nid
    · simp only [if_pos e, Option.some.injEq, Prod.mk.injEq] at hb
      simp only [AState.eff, upd, if_pos e, Option.some.injEq] at ho'
      obtain ⟨rfl, rfl⟩ := hb
      subst ho'
      exact hok.keep (fun _ h => h) (fun _ _ => rfl) hB rfl ho
    · simp only [if_neg e] at hb
      simp only [AState.eff, upd, if_neg e] at ho'
      exact (h.objs l b m o' hb ho').keep (fun _ h => h) hF hB (Below.heap_alloc w _ b (h.blt l b m hb)) (h.wfO l o' ho').2
  case inj =>
    intro l l' b m m' hb hb'
    by_cases e : l = nid <;> by_cases e' : l' = nid
    · rw [e, e']
    · simp only [if_pos e, if_neg e', Option.some.injEq, Prod.mk.injEq] at hb hb'
      have := h.blt l' b m' hb'
      omega
    · simp only [if_neg e, if_pos e', Option.some.injEq, Prod.mk.injEq] at hb hb'
      have := h.blt l b m hb
      omega
    · simp only [if_neg e, if_neg e'] at hb hb'
      exact h.inj l l' b m m' hb hb'
  case apart =>
    intro l b m hb
    by_cases e : l = nid
    · simp only [if_pos e, Option.some.injEq, Prod.mk.injEq] at hb
      intro hf
      have := h.flt b hf
      omega
    · simp only [if_neg e] at hb
      exact h.apart l b m hb
  case flt => intro b hb; have := h.flt b hb; rw [hsz]; omega
  case blt =>
    intro l b m hb
    by_cases e : l = nid
    · simp only [if_pos e, Option.some.injEq, Prod.mk.injEq] at hb
      rw [hsz]; omega
    · simp only [if_neg e] at hb
      have := h.blt l b m hb
      rw [hsz]; omega
  case fsrc => exact h.fsrc
  case bsrc =>
    intro l b m hb
    by_cases e : l = nid
    · simp only [if_pos e, Option.some.injEq, Prod.mk.injEq] at hb
      have := h.grown
      exact .inr (by omega)
    · simp only [if_neg e] at hb
      exact h.bsrc l b m hb
  case frame => intro b hb hne; rw [Below.heap_alloc w _ b (by have := h.grown; omega)]; exact h.frame b hb hne
  case grown => rw [hsz]; have := h.grown; omega
  case wfT => exact fun x hx => AV.lo_mono (fun _ h => .inl h) x (h.wfT x hx)
  case wfO =>
    intro l o' ho'
    by_cases e : l = nid
    · simp only [AState.eff, upd, if_pos e, Option.some.injEq] at ho'
      subst ho'
      exact ⟨.inr e, AObj.lo_mono (fun _ h => .inl h) ho⟩
    · simp only [AState.eff, upd, if_neg e] at ho'
      exact ⟨.inl (h.wfO l o' ho').1, AObj.lo_mono (fun _ h => .inl h) (h.wfO l o' ho').2⟩
  case anchor =>
    intro p hp
    obtain ⟨h1, h2⟩ := h.anchor p hp
    have hne : (0 : Nat) ≠ nid := fun e => hn (e ▸ h1)
    refine ⟨.inl h1, fun b m hb => ?_⟩
    simp only [if_neg hne] at hb
    exact h2 b m hb

/-- One local object's block is written. -/
theorem RelB.set (h : RelB E s a w F B U) {l b n : Nat} {o o' : AObj} (hb : B l = some (b, n)) (hl : s.objs l = some o) {w' : World} (hoth : ∀ k, k ≠ b → w'.heap[k]? = w.heap[k]?) (hsz : w'.heap.size = w.heap.size)
    (hos : w'.os = w.os) (htp : w'.tape = w.tape) (hou : w'.output = w.output) (hok : ObjOk w' F B b n o') (ho : o'.lo U) (hbx : o.isBox = true → o'.isBox = true) : RelB E (s.eff 0 (.put l o')) a w' F B U := by
  have hF : ∀ k, F k → w'.heap[k]? = w.heap[k]? := fun k hk => hoth k (fun e => h.apart l b n hb (e ▸ hk))
  constructor
  case size => exact h.size
  case defers => exact h.defers
  case os => exact hos.trans h.os
  case tape => exact htp.trans h.tape
  case output => exact hou.trans h.output
  case tmps => exact fun i x v hx hv => (h.tmps i x v hx hv).keep' (fun _ h => h) hF
  case live =>
    intro k
    by_cases e : k = l
    · simp [AState.eff, upd, e, hb]
    · simp only [AState.eff, upd, if_neg e]; exact h.live k
  case objs =>
    intro k c m o1 hc ho1
    by_cases e : k = l
    · subst e
      rw [hb] at hc
      cases hc
      simp only [AState.eff, upd, if_true, Option.some.injEq] at ho1
      subst ho1
      exact hok
    · simp only [AState.eff, upd, if_neg e] at ho1
      exact (h.objs k c m o1 hc ho1).keep (fun _ h => h) hF (fun _ _ => .inl rfl) (hoth c fun e' => e (h.inj k l c m n hc (by rw [e']; exact hb))) (h.wfO k o1 ho1).2
  case inj => exact h.inj
  case apart => exact h.apart
  case flt => intro b hb; rw [hsz]; exact h.flt b hb
  case blt => intro l b n hb; rw [hsz]; exact h.blt l b n hb
  case fsrc => exact h.fsrc
  case bsrc => exact h.bsrc
  case frame =>
    intro k hk hne
    rw [hoth k fun e => ?_]
    · exact h.frame k hk hne
    · subst e
      rcases h.bsrc l k n hb with h1 | h1
      · exact hne h1
      · omega
  case grown => rw [hsz]; exact h.grown
  case wfT => exact h.wfT
  case wfO =>
    intro k o1 ho1
    by_cases e : k = l
    · subst e
      simp only [AState.eff, upd, if_true, Option.some.injEq] at ho1
      subst ho1
      exact ⟨(h.wfO k o hl).1, ho⟩
    · simp only [AState.eff, upd, if_neg e] at ho1
      exact h.wfO k o1 ho1
  case anchor =>
    exact h.anchor

theorem ARep.kill {w' : World} {F' : Nat → Prop} {B' : Beta} {l : Nat} (hF : ∀ b, F b → F' b) (hw : ∀ b, F b → w'.heap[b]? = w.heap[b]?) (hB : ∀ k, k ≠ l → B' k = B k) {v : Value} {x : AV} (h : ARep w F B v x) : ARep w' F' B' v (x.kill l) := by
  induction h with
  | junk => simp only [AV.kill]; exact .junk
  | c h => simp only [AV.kill]; exact .c (h.keep hF hw)
  | agg h1 h2 ih =>
    simp only [AV.kill]
    refine .agg (by simpa using h1) fun i x v hx hv => ?_
    simp only [List.getElem?_map, Option.map_eq_some_iff] at hx
    obtain ⟨y, hy, rfl⟩ := hx
    exact ih i y v hy hv
  | tup h1 h2 ih =>
    simp only [AV.kill]
    refine .tup (by simpa using h1) fun i x v hx hv => ?_
    simp only [List.getElem?_map, Option.map_eq_some_iff] at hx
    obtain ⟨y, hy, rfl⟩ := hx
    exact ih i y v hy hv
  | @ref v k off h =>
    simp only [AV.kill]
    split
    · exact .junk
    · rename_i e
      exact .ref fun b n hb => h b n (by rw [← hB k e]; exact hb)
  | @eref v k sz i off h =>
    simp only [AV.kill]
    split
    · exact .junk
    · rename_i e
      exact .eref fun b n hb => h b n (by rw [← hB k e]; exact hb)
  | @lsl v k sz off len h =>
    simp only [AV.kill]
    split
    · exact .junk
    · rename_i e
      exact .lsl fun b n hb => h b n (by rw [← hB k e]; exact hb)
  | fn h1 h2 ih =>
    simp only [AV.kill]
    refine .fn (by simpa using h1) fun i x v hx hv => ?_
    simp only [List.getElem?_map, Option.map_eq_some_iff] at hx
    obtain ⟨y, hy, rfl⟩ := hx
    exact ih i y v hy hv

theorem AV.kill_lo {l : Nat} : ∀ (x : AV), x.lo U → (x.kill l).lo U
  | .junk, _ => by simp only [AV.kill, AV.lo]
  | .c _, _ => by simp only [AV.kill, AV.lo]
  | .agg cs, h => by
    simp only [AV.kill, AV.lo] at h ⊢
    intro y hy
    obtain ⟨z, hz, rfl⟩ := List.mem_map.1 hy
    exact AV.kill_lo z (h z hz)
  | .tup cs, h => by
    simp only [AV.kill, AV.lo] at h ⊢
    intro y hy
    obtain ⟨z, hz, rfl⟩ := List.mem_map.1 hy
    exact AV.kill_lo z (h z hz)
  | .ref k _, h => by
    simp only [AV.kill]
    split
    · simp only [AV.lo]
    · exact h
  | .eref k _ _ _, h => by
    simp only [AV.kill]
    split
    · simp only [AV.lo]
    · exact h
  | .lsl k _ _ _, h => by
    simp only [AV.kill]
    split
    · simp only [AV.lo]
    · exact h
  | .fn f caps, h => by
    simp only [AV.kill, AV.lo] at h ⊢
    intro y hy
    obtain ⟨z, hz, rfl⟩ := List.mem_map.1 hy
    exact AV.kill_lo z (h z hz)

theorem AObj.kill_lo {l : Nat} {o : AObj} (h : o.lo U) : (o.kill l).lo U := by
  cases o with
  | box t cells =>
    intro y hy
    obtain ⟨z, hz, rfl⟩ := List.mem_map.1 hy
    exact AV.kill_lo z (h z hz)
  | arr e sz rows => trivial
  | brr e sz rows =>
    intro row hr x hx
    obtain ⟨r, hr', rfl⟩ := List.mem_map.1 hr
    obtain ⟨z, hz, rfl⟩ := List.mem_map.1 hx
    exact AV.kill_lo z (h r hr' z hz)

theorem ObjOk.kill {w' : World} {F' : Nat → Prop} {B' : Beta} {l b n : Nat} {o : AObj} (hF : ∀ b, F b → F' b) (hw : ∀ b, F b → w'.heap[b]? = w.heap[b]?) (hB : ∀ k, k ≠ l → B' k = B k) (hb : w'.heap[b]? = w.heap[b]?) (h : ObjOk w F B b n o) : ObjOk w' F' B' b n (o.kill l) := by
  cases o with
  | box t cells =>
    obtain ⟨C, h1, h2, h3⟩ := h
    refine ⟨C, hb.trans h1, by simpa using h2, fun j x v hx hv => ?_⟩
    simp only [List.getElem?_map, Option.map_eq_some_iff] at hx
    obtain ⟨y, hy, rfl⟩ := hx
    exact (h3 j y v hy hv).kill hF hw hB
  | arr e sz rows =>
    obtain ⟨C, h1, h2, h3, h3', h4⟩ := h
    exact ⟨C, hb.trans h1, h2, h3, h3', fun i row hr => ⟨(h4 i row hr).1, fun j x v hx hv => ((h4 i row hr).2 j x v hx hv).keep hF hw⟩⟩
  | brr e sz rows =>
    obtain ⟨C, h1, h2, h3, h3', h4⟩ := h
    refine ⟨C, hb.trans h1, h2, by simpa using h3, h3', fun i row hr => ?_⟩
    simp only [List.getElem?_map, Option.map_eq_some_iff] at hr
    obtain ⟨r, hr', rfl⟩ := hr
    refine ⟨by simpa using (h4 i r hr').1, fun j x v hx hv => ?_⟩
    simp only [List.getElem?_map, Option.map_eq_some_iff] at hx
    obtain ⟨y, hy, rfl⟩ := hx
    exact ((h4 i r hr').2 j y v hy hv).kill hF hw hB

/-- An object moves: its references die; it is told anew, in its old block or in a new one. -/
theorem RelB.app (h : RelB E s a w F B U) {l b n b' n' : Nat} {o o' : AObj} (hb : B l = some (b, n)) (hl : s.objs l = some o) {w' : World} (hoth : ∀ k, k < w.heap.size → k ≠ b → w'.heap[k]? = w.heap[k]?) (hsz : w.heap.size ≤ w'.heap.size)
    (hos : w'.os = w.os) (htp : w'.tape = w.tape) (hou : w'.output = w.output) (hb' : b' = b ∨ w.heap.size ≤ b') (hbl : b' < w'.heap.size) (hok : ObjOk w' F (fun k => if k = l then some (b', n') else B k) b' n' o') (ho : o'.lo U) (hbx : l ≠ 0) :
    RelB E (s.eff 0 (.app l o')) a w' F (fun k => if k = l then some (b', n') else B k) U := by
  have hF : ∀ k, F k → w'.heap[k]? = w.heap[k]? := fun k hk => hoth k (h.flt k hk) (fun e => h.apart l b n hb (e ▸ hk))
  have hB : ∀ k, k ≠ l → (if k = l then some (b', n') else B k) = B k := fun k e => if_neg e
  constructor
  case size => simpa [AState.eff] using h.size
  case defers => exact h.defers
  case os => exact hos.trans h.os
  case tape => exact htp.trans h.tape
  case output => exact hou.trans h.output
  case tmps =>
    intro i x v hx hv
    simp only [AState.eff, List.getElem?_map, Option.map_eq_some_iff] at hx
    obtain ⟨y, hy, rfl⟩ := hx
    exact (h.tmps i y v hy hv).kill (fun _ h => h) hF hB
  case live =>
    intro k
    by_cases e : k = l
    · simp [AState.eff, upd, e]
    · simp only [AState.eff, upd, if_neg e, Option.map_eq_none_iff]; exact h.live k
  case objs =>
    intro k c m o1 hc ho1
    by_cases e : k = l
    · simp only [if_pos e, Option.some.injEq, Prod.mk.injEq] at hc
      simp only [AState.eff, upd, if_pos e, Option.some.injEq] at ho1
      obtain ⟨rfl, rfl⟩ := hc
      subst ho1
      exact hok
    · simp only [if_neg e] at hc
      simp only [AState.eff, upd, if_neg e, Option.map_eq_some_iff] at ho1
      obtain ⟨o2, ho2, rfl⟩ := ho1
      exact (h.objs k c m o2 hc ho2).kill (fun _ h => h) hF hB (hoth c (h.blt k c m hc) fun e' => e (h.inj k l c m n hc (by rw [e']; exact hb)))
  case inj =>
    intro k k' c m m' hc hc'
    have hbk : ∀ k c m, k ≠ l → B k = some (c, m) → c ≠ b' := by
      intro k c m hk hc e
      rcases hb' with e' | e'
      · exact hk (h.inj k l c m n hc (by rw [e, e']; exact hb))
      · have := h.blt k c m hc; omega
    by_cases e : k = l <;> by_cases e' : k' = l
    · rw [e, e']
    · simp only [if_pos e, if_neg e', Option.some.injEq, Prod.mk.injEq] at hc hc'
      exact absurd hc.1.symm (hbk k' c m' e' hc')
    · simp only [if_neg e, if_pos e', Option.some.injEq, Prod.mk.injEq] at hc hc'
      exact absurd hc'.1.symm (hbk k c m e hc)
    · simp only [if_neg e, if_neg e'] at hc hc'
      exact h.inj k k' c m m' hc hc'
  case apart =>
    intro k c m hc
    by_cases e : k = l
    · simp only [if_pos e, Option.some.injEq, Prod.mk.injEq] at hc
      intro hf
      rcases hb' with e' | e'
      · exact h.apart l b n hb (by rw [← e', hc.1]; exact hf)
      · have := h.flt c hf; omega
    · simp only [if_neg e] at hc
      exact h.apart k c m hc
  case flt => intro b hb; have := h.flt b hb; omega
  case blt =>
    intro k c m hc
    by_cases e : k = l
    · simp only [if_pos e, Option.some.injEq, Prod.mk.injEq] at hc
      omega
    · simp only [if_neg e] at hc
      have := h.blt k c m hc; omega
  case fsrc => exact h.fsrc
  case bsrc =>
    intro k c m hc
    by_cases e : k = l
    · simp only [if_pos e, Option.some.injEq, Prod.mk.injEq] at hc
      rcases hb' with e' | e'
      · rw [← hc.1, e']; exact h.bsrc l b n hb
      · have := h.grown; exact .inr (by omega)
    · simp only [if_neg e] at hc
      exact h.bsrc k c m hc
  case frame =>
    intro k hk hne
    rw [hoth k (by have := h.grown; omega) fun e => ?_]
    · exact h.frame k hk hne
    · subst e
      rcases h.bsrc l k n hb with h1 | h1
      · exact hne h1
      · omega
  case grown => have := h.grown; omega
  case wfT =>
    intro x hx
    simp only [AState.eff] at hx
    obtain ⟨y, hy, rfl⟩ := List.mem_map.1 hx
    exact AV.kill_lo y (h.wfT y hy)
  case wfO =>
    intro k o1 ho1
    by_cases e : k = l
    · subst e
      simp only [AState.eff, upd, if_true, Option.some.injEq] at ho1
      subst ho1
      exact ⟨(h.wfO k o hl).1, ho⟩
    · simp only [AState.eff, upd, if_neg e, Option.map_eq_some_iff] at ho1
      obtain ⟨o2, ho2, rfl⟩ := ho1
      exact ⟨(h.wfO k o2 ho2).1, AObj.kill_lo (h.wfO k o2 ho2).2⟩
  case anchor =>
    intro p hp
    obtain ⟨h1, h2⟩ := h.anchor p hp
    have hne : (0 : Nat) ≠ l := fun e => hbx e.symm
    refine ⟨h1, fun c m hc => ?_⟩
    simp only [if_neg hne] at hc
    exact h2 c m hc

end
end Go.Proofs.Ytnnpjblpiecfdaa.Fw
