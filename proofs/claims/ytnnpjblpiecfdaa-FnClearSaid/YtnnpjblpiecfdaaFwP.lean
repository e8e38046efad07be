/- Calls, by their contracts. -/
import Derived.Test.YtnnpjblpiecfdaaFwOb
namespace Go.Proofs.Ytnnpjblpiecfdaa.Fw
open Go.RowKit
set_option linter.unusedVariables false
set_option linter.unusedSimpArgs false

def AState.drop (s : AState) (l : Nat) : AState := { s with objs := upd s.objs l none }

def RV.av (nid : Nat) : RV → AV
  | .c x => .c x
  | .own _ sz rows => .lsl nid sz 0 rows.length
  | .agg cs => .agg (cs.map .c)
  | .tup xs => .tup (xs.map (T1.av nid))
  | .obox _ _ => .ref nid 0

def AState.ret (s : AState) (nid : Nat) : RV → AState
  | .own e sz rows => { s with objs := upd s.objs nid (some (.arr e sz rows)) }
  | .tup xs => match ownOf xs with
    | some (e, sz, rows) => { s with objs := upd s.objs nid (some (.arr e sz rows)) }
    | none => s
  | .obox t cells => { s with objs := upd s.objs nid (some (.box t (cells.map .c))) }
  | _ => s

def AState.setBox (s : AState) (l : Nat) (t : TypeId) (out : List CV) : AState := { s with objs := upd s.objs l (some (.box t (out.map .c))) }

def AState.setArr (s : AState) (l e sz : Nat) (rows : List (List CV)) : AState := { s with objs := upd s.objs l (some (.arr e sz rows)) }

def acall1 (q : Bool) (P : Program) (s : AState) (nid : Nat) (f : FuncId) (xs : List AV) (K : AV → AState → Prop) : Prop :=
  (∃ args r, snapArgs s xs = some args ∧ (xs.all AV.closed = true ∨ r.plain = true) ∧ Ret P f none args [] r ∧ K (r.av nid) (s.ret nid r)) ∨
  (q = false ∧ ∃ l t cs cells rest out r, xs = .ref l 0 :: rest ∧ s.objs l = some (.box t cs) ∧ toCVs cs = some cells ∧ rest.all AV.closed = true ∧ Ret P f (some (t, cells)) rest out r ∧ K (r.av nid) ((s.setBox l t out).ret nid r)) ∨
  (q = false ∧ ∃ l e sz rows rest args rows' r, xs = .lsl l sz 0 rows.length :: rest ∧ s.objs l = some (.arr e sz rows) ∧ snapArgs (s.drop l) rest = some args ∧ r.plain = true ∧ (rows'.all fun x => x.all CV.plain) = true ∧ RetA P f e sz rows args rows' r ∧ K (r.av nid) ((s.setArr l e sz rows').ret nid r))

/-- A call; some local objects may be laid open before. -/
def acall (q : Bool) (P : Program) (s : AState) (nid : Nat) (f : FuncId) (xs : List AV) (K : AV → AState → Prop) : Prop :=
  acall1 q P s nid f xs K ∨ (q = false ∧ ∃ ls, acall1 q P (fzL s xs ls).1 nid f (fzL s xs ls).2 K)

section
variable {P : Program} {T : Tab} {E : Entry} {s : AState} {a : Act} {w : World} {F : Nat → Prop} {B : Beta} {U : Nat → Prop}

theorem RelB.drop (h : RelB E s a w F B U) (l : Nat) : RelB E (s.drop l) a w F (fun k => if k = l then none else B k) U := by
  have hB : ∀ k, U k → (if k = l then none else B k) = B k ∨ (if k = l then none else B k) = none := by
    intro k _
    split
    · exact .inr rfl
    · exact .inl rfl
  have hsub : ∀ k b n, (if k = l then none else B k) = some (b, n) → k ≠ l ∧ B k = some (b, n) := by
    intro k b n hb
    split at hb
    · cases hb
    · exact ⟨‹_›, hb⟩
  refine { size := h.size, tmps := ?_, defers := h.defers, live := ?_, objs := ?_, inj := ?_, apart := ?_, flt := h.flt, blt := ?_, fsrc := h.fsrc, bsrc := ?_, frame := h.frame, grown := h.grown, os := h.os, tape := h.tape, output := h.output, wfT := h.wfT, wfO := ?_, anchor := ?_ }
  · exact fun i x v hx hv => (h.tmps i x v hx hv).keep (fun _ h => h) (fun _ _ => rfl) hB (h.wfT x (List.mem_of_getElem? hx))
  · intro k
    by_cases e : k = l
    · simp [AState.drop, upd, e]
    · simp only [AState.drop, upd, if_neg e]; exact h.live k
  · intro k b n o hb ho
    obtain ⟨e, hb⟩ := hsub k b n hb
    simp only [AState.drop, upd, if_neg e] at ho
    exact (h.objs k b n o hb ho).keep (fun _ h => h) (fun _ _ => rfl) hB rfl (h.wfO k o ho).2
  · exact fun k k' b n n' hb hb' => h.inj k k' b n n' (hsub _ _ _ hb).2 (hsub _ _ _ hb').2
  · exact fun k b n hb => h.apart k b n (hsub _ _ _ hb).2
  · exact fun k b n hb => h.blt k b n (hsub _ _ _ hb).2
  · exact fun k b n hb => h.bsrc k b n (hsub _ _ _ hb).2
  · intro k o ho
    by_cases e : k = l
    · simp [AState.drop, upd, e] at ho
    · simp only [AState.drop, upd, if_neg e] at ho
      exact h.wfO k o ho
  · intro p hp
    obtain ⟨h1, h2⟩ := h.anchor p hp
    exact ⟨h1, fun b n hb => h2 b n (hsub _ _ _ hb).2⟩


/-- More has been read in, new blocks have come. -/
theorem RelB.grow (h : RelB E s a w F B U) {w' : World} {F1 : Nat → Prop} (hF : ∀ b, F b → F1 b) (hF1 : ∀ b, F1 b → F b ∨ w.heap.size ≤ b) (hlt : ∀ b, F1 b → b < w'.heap.size) (hoth : ∀ b, b < w.heap.size → w'.heap[b]? = w.heap[b]?) (hsz : w.heap.size ≤ w'.heap.size)
    (hos : w'.os = w.os) (htp : w'.tape = w.tape) (hou : w'.output = w.output) : RelB E s a w' F1 B U := by
  have hw : ∀ b, F b → w'.heap[b]? = w.heap[b]? := fun b hb => hoth b (h.flt b hb)
  constructor
  case size => exact h.size
  case defers => exact h.defers
  case os => exact hos.trans h.os
  case tape => exact htp.trans h.tape
  case output => exact hou.trans h.output
  case tmps => exact fun i x v hx hv => (h.tmps i x v hx hv).keep' hF hw
  case live => exact h.live
  case objs => exact fun l b n o hb ho => (h.objs l b n o hb ho).keep hF hw (fun _ _ => .inl rfl) (hoth b (h.blt l b n hb)) (h.wfO l o ho).2
  case inj => exact h.inj
  case apart =>
    intro l b n hb hf
    rcases hF1 b hf with g | g
    · exact h.apart l b n hb g
    · have := h.blt l b n hb; omega
  case flt => exact hlt
  case blt => intro l b n hb; have := h.blt l b n hb; omega
  case fsrc =>
    intro b hb
    rcases hF1 b hb with g | g
    · exact h.fsrc b g
    · have := h.grown; exact .inr (.inr (by omega))
  case bsrc => exact h.bsrc
  case frame => intro b hb hne; rw [hoth b (by have := h.grown; omega)]; exact h.frame b hb hne
  case grown => have := h.grown; omega
  case wfT => exact h.wfT
  case wfO => exact h.wfO
  case anchor => exact h.anchor

/-- A block that is there becomes a local object. -/
theorem RelB.adopt (h : RelB E s a w F B U) {nid b n : Nat} (hn : ¬ U nid) (hFb : ¬ F b) (hBb : ∀ l m, B l ≠ some (b, m)) (hlt : b < w.heap.size) (hsrc : E.own b ∨ E.w0.heap.size ≤ b) {o : AObj} (hok : ObjOk w F B b n o) (ho : o.lo U) :
    RelB E { s with objs := upd s.objs nid (some o) } a w F (fun l => if l = nid then some (b, n) else B l) (fun l => U l ∨ l = nid) := by
  have hB : ∀ l, U l → (if l = nid then some (b, n) else B l) = B l ∨ (if l = nid then some (b, n) else B l) = none := fun l hl => .inl (if_neg fun (e : l = nid) => hn (e ▸ hl))
  constructor
  case size => exact h.size
  case defers => exact h.defers
  case os => exact h.os
  case tape => exact h.tape
  case output => exact h.output
  case tmps => exact fun i x v hx hv => (h.tmps i x v hx hv).keep (fun _ h => h) (fun _ _ => rfl) hB (h.wfT x (List.mem_of_getElem? hx))
  case live =>
    intro l
    by_cases e : l = nid
    · simp [upd, e]
    · simp only [upd, if_neg e]; exact h.live l
  case objs =>
    intro l c m o' hb ho'
    by_cases e : l = nid
    · simp only [if_pos e, Option.some.injEq, Prod.mk.injEq] at hb
      simp only [upd, if_pos e, Option.some.injEq] at ho'
      obtain ⟨rfl, rfl⟩ := hb
      subst ho'
      exact hok.keep (fun _ h => h) (fun _ _ => rfl) hB rfl ho
    · simp only [if_neg e] at hb
      simp only [upd, if_neg e] at ho'
      exact (h.objs l c m o' hb ho').keep (fun _ h => h) (fun _ _ => rfl) hB rfl (h.wfO l o' ho').2
  case inj =>
    intro l l' c m m' hb hb'
    by_cases e : l = nid <;> by_cases e' : l' = nid
    · rw [e, e']
    · simp only [if_pos e, if_neg e', Option.some.injEq, Prod.mk.injEq] at hb hb'
      exact absurd (hb.1 ▸ hb') (hBb l' m')
    · simp only [if_neg e, if_pos e', Option.some.injEq, Prod.mk.injEq] at hb hb'
      exact absurd (hb'.1 ▸ hb) (hBb l m)
    · simp only [if_neg e, if_neg e'] at hb hb'
      exact h.inj l l' c m m' hb hb'
  case apart =>
    intro l c m hb
    by_cases e : l = nid
    · simp only [if_pos e, Option.some.injEq, Prod.mk.injEq] at hb
      rw [← hb.1]; exact hFb
    · simp only [if_neg e] at hb
      exact h.apart l c m hb
  case flt => exact h.flt
  case blt =>
    intro l c m hb
    by_cases e : l = nid
    · simp only [if_pos e, Option.some.injEq, Prod.mk.injEq] at hb
      rw [← hb.1]; exact hlt
    · simp only [if_neg e] at hb
      exact h.blt l c m hb
  case fsrc => exact h.fsrc
  case bsrc =>
    intro l c m hb
    by_cases e : l = nid
    · simp only [if_pos e, Option.some.injEq, Prod.mk.injEq] at hb
      rw [← hb.1]; exact hsrc
    · simp only [if_neg e] at hb
      exact h.bsrc l c m hb
  case frame => exact h.frame
  case grown => exact h.grown
  case wfT => exact fun x hx => lo_or (h.wfT x hx)
  case wfO =>
    intro l o' ho'
    by_cases e : l = nid
    · simp only [upd, if_pos e, Option.some.injEq] at ho'
      subst ho'
      exact ⟨.inr e, AObj.lo_mono (fun _ h => .inl h) ho⟩
    · simp only [upd, if_neg e] at ho'
      exact ⟨.inl (h.wfO l o' ho').1, AObj.lo_mono (fun _ h => .inl h) (h.wfO l o' ho').2⟩
  case anchor =>
    intro p hp
    obtain ⟨h1, h2⟩ := h.anchor p hp
    have hne : (0 : Nat) ≠ nid := fun e => hn (e ▸ h1)
    refine ⟨.inl h1, fun c m hc => ?_⟩
    simp only [if_neg hne] at hc
    exact h2 c m hc

/-- One variable was handed on to be written. -/
theorem RelB.io (h : RelB E s a w F B U) {l p n : Nat} {t : TypeId} {o : AObj} {out : List CV} (hb : B l = some (p, n)) (hl : s.objs l = some o) {w' : World} {F1 : Nat → Prop} (hF : ∀ b, F b → F1 b) (hF1 : ∀ b, F1 b → F b ∨ w.heap.size ≤ b) (hlt : ∀ b, F1 b → b < w'.heap.size)
    (hoth : ∀ b, b < w.heap.size → b ≠ p → w'.heap[b]? = w.heap[b]?) (hsz : w.heap.size ≤ w'.heap.size) (hos : w'.os = w.os) (htp : w'.tape = w.tape) (hou : w'.output = w.output) (hv : VarAt w' F1 p t out) : RelB E (s.setBox l t out) a w' F1 B U := by
  have hw : ∀ b, F b → w'.heap[b]? = w.heap[b]? := fun b hb' => hoth b (h.flt b hb') (fun e => h.apart l p n hb (e ▸ hb'))
  constructor
  case size => exact h.size
  case defers => exact h.defers
  case os => exact hos.trans h.os
  case tape => exact htp.trans h.tape
  case output => exact hou.trans h.output
  case tmps => exact fun i x v hx hv => (h.tmps i x v hx hv).keep' hF hw
  case live =>
    intro k
    by_cases e : k = l
    · simp [AState.setBox, upd, e, hb]
    · simp only [AState.setBox, upd, if_neg e]; exact h.live k
  case objs =>
    intro k c m o1 hc ho1
    by_cases e : k = l
    · subst e
      rw [hb] at hc
      cases hc
      simp only [AState.setBox, upd, if_true, Option.some.injEq] at ho1
      subst ho1
      obtain ⟨C, h1, h2, h3⟩ := hv
      refine ⟨C, h1, by simpa using h2, fun j x v hx hv => ?_⟩
      simp only [List.getElem?_map, Option.map_eq_some_iff] at hx
      obtain ⟨y, hy, rfl⟩ := hx
      exact .c (h3 j y v hy hv)
    · simp only [AState.setBox, upd, if_neg e] at ho1
      exact (h.objs k c m o1 hc ho1).keep hF hw (fun _ _ => .inl rfl) (hoth c (h.blt k c m hc) fun e' => e (h.inj k l c m n hc (by rw [e']; exact hb))) (h.wfO k o1 ho1).2
  case inj => exact h.inj
  case apart =>
    intro k c m hc hf
    rcases hF1 c hf with g | g
    · exact h.apart k c m hc g
    · have := h.blt k c m hc; omega
  case flt => exact hlt
  case blt => intro k c m hc; have := h.blt k c m hc; omega
  case fsrc =>
    intro b hb
    rcases hF1 b hb with g | g
    · exact h.fsrc b g
    · have := h.grown; exact .inr (.inr (by omega))
  case bsrc => exact h.bsrc
  case frame =>
    intro k hk hne
    rw [hoth k (by have := h.grown; omega) fun e => ?_]
    · exact h.frame k hk hne
    · subst e
      rcases h.bsrc l k n hb with h1 | h1
      · exact hne h1
      · omega
  case grown => have := h.grown; omega
  case wfT => exact h.wfT
  case wfO =>
    intro k o1 ho1
    by_cases e : k = l
    · subst e
      simp only [AState.setBox, upd, if_true, Option.some.injEq] at ho1
      subst ho1
      exact ⟨(h.wfO k o hl).1, map_lo _⟩
    · simp only [AState.setBox, upd, if_neg e] at ho1
      exact h.wfO k o1 ho1
  case anchor =>
    exact h.anchor

/-- One slice's elements were handed on to be written. -/
theorem RelB.ioA (h : RelB E s a w F B U) {l p n : Nat} {e sz : Nat} {o : AObj} {out : List (List CV)} (hb : B l = some (p, n)) (hl : s.objs l = some o) {w' : World} {F1 : Nat → Prop} (hF : ∀ b, F b → F1 b) (hF1 : ∀ b, F1 b → F b ∨ w.heap.size ≤ b) (hlt : ∀ b, F1 b → b < w'.heap.size)
    (hoth : ∀ b, b < w.heap.size → b ≠ p → w'.heap[b]? = w.heap[b]?) (hsz : w.heap.size ≤ w'.heap.size) (hos : w'.os = w.os) (htp : w'.tape = w.tape) (hou : w'.output = w.output) (hv : ArrAt w' F1 p n e sz out) : RelB E (s.setArr l e sz out) a w' F1 B U := by
  have hw : ∀ b, F b → w'.heap[b]? = w.heap[b]? := fun b hb' => hoth b (h.flt b hb') (fun e => h.apart l p n hb (e ▸ hb'))
  constructor
  case size => exact h.size
  case defers => exact h.defers
  case os => exact hos.trans h.os
  case tape => exact htp.trans h.tape
  case output => exact hou.trans h.output
  case tmps => exact fun i x v hx hv => (h.tmps i x v hx hv).keep' hF hw
  case live =>
    intro k
    by_cases hkl : k = l
    · simp [AState.setArr, upd, hkl, hb]
    · simp only [AState.setArr, upd, if_neg hkl]; exact h.live k
  case objs =>
    intro k c m o1 hc ho1
    by_cases hkl : k = l
    · subst hkl
      rw [hb] at hc
      cases hc
      simp only [AState.setArr, upd, if_true, Option.some.injEq] at ho1
      subst ho1
      exact hv
    · simp only [AState.setArr, upd, if_neg hkl] at ho1
      exact (h.objs k c m o1 hc ho1).keep hF hw (fun _ _ => .inl rfl) (hoth c (h.blt k c m hc) fun e' => hkl (h.inj k l c m n hc (by rw [e']; exact hb))) (h.wfO k o1 ho1).2
  case inj => exact h.inj
  case apart =>
    intro k c m hc hf
    rcases hF1 c hf with g | g
    · exact h.apart k c m hc g
    · have := h.blt k c m hc; omega
  case flt => exact hlt
  case blt => intro k c m hc; have := h.blt k c m hc; omega
  case fsrc =>
    intro b hb
    rcases hF1 b hb with g | g
    · exact h.fsrc b g
    · have := h.grown; exact .inr (.inr (by omega))
  case bsrc => exact h.bsrc
  case frame =>
    intro k hk hne
    rw [hoth k (by have := h.grown; omega) fun e => ?_]
    · exact h.frame k hk hne
    · subst e
      rcases h.bsrc l k n hb with h1 | h1
      · exact hne h1
      · omega
  case grown => have := h.grown; omega
  case wfT => exact h.wfT
  case wfO =>
    intro k o1 ho1
    by_cases hkl : k = l
    · subst hkl
      simp only [AState.setArr, upd, if_true, Option.some.injEq] at ho1
      subst ho1
      exact ⟨(h.wfO k o hl).1, trivial⟩
    · simp only [AState.setArr, upd, if_neg hkl] at ho1
      exact h.wfO k o1 ho1
  case anchor =>
    exact h.anchor

theorem plain_rep {G G' : Nat → Prop} {v : Value} {x : CV} (hp : x.plain = true) (h : CRep w G v x) : CRep w G' v x := by
  cases h with
  | v h => exact .v h
  | nil => exact .nil
  | @sl nl full sz rows ad n cap f hn hc hf h1 h2 =>
    cases rows with
    | nil => exact .sl f hn hc hf (fun i row hr => by simp at hr) (fun i row hr => by simp at hr)
    | cons r rs => simp [CV.plain] at hp
  | rp => simp [CV.plain] at hp
  | fn => simp [CV.plain] at hp

/-- Fitting a result to what may be read: it fits, or it reads nothing. -/
theorem crep_fit {G G' : Nat → Prop} {v : Value} {x : CV} (hg : (∀ b, G b → G' b) ∨ x.plain = true) (h : CRep w G v x) : CRep w G' v x := by
  rcases hg with hg | hg
  · exact h.keep hg (fun _ _ => rfl)
  · exact plain_rep hg h

theorem creps_av {G : Nat → Prop} {C : Array Value} {cs : List CV} (h : CReps w G C cs) (B' : Beta) : ARep w G B' (.agg C) (.agg (cs.map .c)) := by
  refine .agg (by simpa using h.1) fun i x v hx hv => ?_
  simp only [List.getElem?_map, Option.map_eq_some_iff] at hx
  obtain ⟨y, hy, rfl⟩ := hx
  exact .c (h.2 i y v hy hv)

theorem creps_fit {G G' : Nat → Prop} {C : Array Value} {cs : List CV} (hg : (∀ b, G b → G' b) ∨ cs.all CV.plain = true) (h : CReps w G C cs) : CReps w G' C cs :=
  ⟨h.1, fun i x v hx hv => crep_fit (hg.imp id fun hp => List.all_eq_true.1 hp x (List.mem_of_getElem? hx)) (h.2 i x v hx hv)⟩

theorem own_state (h : RelB E s a w F B U) {nid base : Nat} (hn : ¬ U nid) {e sz : Nat} {rows : List (List CV)} {v : Value} {G : Nat → Prop} (hg : (∀ b, G b → F b) ∨ (rows.all fun r => r.all CV.plain) = true) (hr : OwnRep w G base v e sz rows) (hbase : ∀ l b n, B l = some (b, n) → b < base) (hFb : ∀ b, F b → base ≤ b → G b) (hb0 : E.w0.heap.size ≤ base) :
    ∃ B', RelB E { s with objs := upd s.objs nid (some (.arr e sz rows)) } a w F B' (fun l => U l ∨ l = nid) ∧ ARep w F B' v (.lsl nid sz 0 rows.length) := by
  obtain ⟨b, n, C, rfl, hC, hCs, hrl, hmx, hbb, hGb, hrr⟩ := hr
  have hlt : b < w.heap.size := by
    rcases Nat.lt_or_ge b w.heap.size with q | q
    · exact q
    · rw [Array.getElem?_eq_none q] at hC; cases hC
  refine ⟨_, h.adopt (b := b) (n := n) hn (fun hf => hGb (hFb b hf hbb)) (fun l m hl => by have := hbase l b m hl; omega) hlt (.inr (by omega)) (o := .arr e sz rows) ?_ (by trivial), .lsl fun b' n' hb' => ?_⟩
  · refine ⟨C, hC, hCs, hrl, hmx, fun i row hr => ⟨(hrr i row hr).1, fun j x v hx hv => crep_fit (hg.imp id fun hp => ?_) ((hrr i row hr).2 j x v hx hv)⟩⟩
    exact List.all_eq_true.1 (List.all_eq_true.1 hp row (List.mem_of_getElem? hr)) x (List.mem_of_getElem? hx)
  · simp only [if_true, Option.some.injEq, Prod.mk.injEq] at hb'
    obtain ⟨rfl, rfl⟩ := hb'
    exact ⟨by omega, _, by rw [Nat.sub_zero], fun _ => by rw [Nat.zero_mul]⟩
theorem owns_none : ∀ {xs : List T1}, ownOf xs = none → ∀ t ∈ xs, t.isOwn = false
  | [], _, t, ht => by simp at ht
  | .c x :: xs, h, t, ht => by
    rcases List.mem_cons.1 ht with rfl | ht
    · rfl
    · exact owns_none (xs := xs) h t ht
  | .agg cs :: xs, h, t, ht => by
    rcases List.mem_cons.1 ht with rfl | ht
    · rfl
    · exact owns_none (xs := xs) h t ht
  | .own .. :: xs, h, t, ht => by simp [ownOf] at h
theorem owns_zero : ∀ {xs : List T1}, owns xs = 0 → ∀ t ∈ xs, t.isOwn = false
  | [], _, t, ht => by simp at ht
  | y :: xs, h, t, ht => by
    simp only [owns] at h
    rcases List.mem_cons.1 ht with rfl | ht
    · cases ho : T1.isOwn t with
      | false => rfl
      | true => rw [ho] at h; simp at h
    · exact owns_zero (xs := xs) (by omega) t ht
theorem owns_one : ∀ {xs : List T1} {e sz : Nat} {rows : List (List CV)}, ownOf xs = some (e, sz, rows) → owns xs ≤ 1 → (∃ i : Nat, xs[i]? = some (.own e sz rows)) ∧ ∀ (i : Nat) t, xs[i]? = some t → t.isOwn = true → t = .own e sz rows
  | [], _, _, _, h, _ => by simp [ownOf] at h
  | .c x :: xs, e, sz, rows, h, h1 => by
    obtain ⟨⟨k, hk⟩, h2⟩ := owns_one (xs := xs) h (by simpa [owns, T1.isOwn] using h1)
    refine ⟨⟨k + 1, hk⟩, fun i t ht ho => ?_⟩
    cases i with
    | zero => simp only [List.getElem?_cons_zero, Option.some.injEq] at ht; subst ht; simp [T1.isOwn] at ho
    | succ i => exact h2 i t ht ho
  | .agg x :: xs, e, sz, rows, h, h1 => by
    obtain ⟨⟨k, hk⟩, h2⟩ := owns_one (xs := xs) h (by simpa [owns, T1.isOwn] using h1)
    refine ⟨⟨k + 1, hk⟩, fun i t ht ho => ?_⟩
    cases i with
    | zero => simp only [List.getElem?_cons_zero, Option.some.injEq] at ht; subst ht; simp [T1.isOwn] at ho
    | succ i => exact h2 i t ht ho
  | .own e' sz' rows' :: xs, e, sz, rows, h, h1 => by
    simp only [ownOf, Option.some.injEq, Prod.mk.injEq] at h
    obtain ⟨rfl, rfl, rfl⟩ := h
    refine ⟨⟨0, rfl⟩, fun i t ht ho => ?_⟩
    cases i with
    | zero => simp only [List.getElem?_cons_zero, Option.some.injEq] at ht; exact ht.symm
    | succ i =>
      have h0 : owns xs = 0 := by simp only [owns, T1.isOwn, if_true] at h1; omega
      rw [owns_zero h0 t (List.mem_of_getElem? ht)] at ho
      cases ho

theorem owns_uniq : ∀ {xs : List T1} {i k : Nat} {e sz : Nat} {rows : List (List CV)} {e' sz' : Nat} {rows' : List (List CV)}, owns xs ≤ 1 → xs[i]? = some (.own e sz rows) → xs[k]? = some (.own e' sz' rows') → i = k
  | [], _, _, _, _, _, _, _, _, _, h, _ => by simp at h
  | y :: xs, 0, 0, _, _, _, _, _, _, _, _, _ => rfl
  | y :: xs, 0, k + 1, _, _, _, _, _, _, h, h1, h2 => by
    simp only [List.getElem?_cons_zero, Option.some.injEq] at h1
    subst h1
    have h0 : owns xs = 0 := by simp only [owns, T1.isOwn, if_true] at h; omega
    have := owns_zero h0 _ (List.mem_of_getElem? (by simpa using h2))
    simp [T1.isOwn] at this
  | y :: xs, i + 1, 0, _, _, _, _, _, _, h, h1, h2 => by
    simp only [List.getElem?_cons_zero, Option.some.injEq] at h2
    subst h2
    have h0 : owns xs = 0 := by simp only [owns, T1.isOwn, if_true] at h; omega
    have := owns_zero h0 _ (List.mem_of_getElem? (by simpa using h1))
    simp [T1.isOwn] at this
  | y :: xs, i + 1, k + 1, _, _, _, _, _, _, h, h1, h2 => by
    have h0 : owns xs ≤ 1 := by simp only [owns] at h; omega
    exact congrArg (· + 1) (owns_uniq (xs := xs) h0 (by simpa using h1) (by simpa using h2))

theorem ret_state (h : RelB E s a w F B U) {nid base : Nat} (hn : ¬ U nid) {r : RV} {v : Value} {G : Nat → Prop} (hg : (∀ b, G b → F b) ∨ r.plain = true) (hr : RRep w G base v r) (hbase : ∀ l b n, B l = some (b, n) → b < base) (hFb : ∀ b, F b → base ≤ b → G b) (hb0 : E.w0.heap.size ≤ base) :
    ∃ B', RelB E (s.ret nid r) a w F B' (fun l => U l ∨ l = nid) ∧ ARep w F B' v (r.av nid) ∧ (r.av nid).lo (fun l => U l ∨ l = nid) := by
  cases r with
  | c x =>
    refine ⟨B, h.more nid, .c (crep_fit (hg.imp id (by simp [RV.plain])) hr), by simp only [RV.av, AV.lo]⟩
  | agg cs =>
    obtain ⟨C, rfl, hC⟩ := hr
    exact ⟨B, h.more nid, creps_av (creps_fit (hg.imp id (by simp [RV.plain])) hC) B, by simp only [RV.av, AV.lo]; exact map_lo _⟩
  | tup xs =>
    obtain ⟨C, rfl, h1, h0, h2⟩ := hr
    have hp : ∀ y, y ∈ xs → (∀ b, G b → F b) ∨ y.plain = true := fun y hy => hg.imp id fun hp => List.all_eq_true.1 hp y hy
    have hlo : ((RV.tup xs).av nid).lo (fun l => U l ∨ l = nid) := by
      simp only [RV.av, AV.lo]
      intro y hy
      obtain ⟨z, _, rfl⟩ := List.mem_map.1 hy
      cases z with
      | c z => simp only [T1.av, AV.lo]
      | agg cs => simp only [T1.av, AV.lo]; exact map_lo _
      | own e sz rows => simp [T1.av, AV.lo]
    have plainOnes : ∀ (B' : Beta) (y : T1) (v : Value), y ∈ xs → y.isOwn = false → T1Rep w G base v y → ARep w F B' v (y.av nid) := by
      intro B' y v hy ho hy2
      cases y with
      | c z => exact .c (crep_fit ((hp _ hy).imp id (by simp [T1.plain])) hy2)
      | agg cs =>
        obtain ⟨D, rfl, hD⟩ := hy2
        exact creps_av (creps_fit ((hp _ hy).imp id (by simp [T1.plain])) hD) B'
      | own e sz rows => simp [T1.isOwn] at ho
    cases hown : ownOf xs with
    | none =>
      refine ⟨B, ?_, .tup (by simpa using h1) fun i x v hx hv => ?_, hlo⟩
      · simp only [AState.ret, hown]; exact h.more nid
      · simp only [List.getElem?_map, Option.map_eq_some_iff] at hx
        obtain ⟨y, hy, rfl⟩ := hx
        have hm := List.mem_of_getElem? hy
        exact plainOnes B y v hm (owns_none hown y hm) (h2 i y v hy hv)
    | some o =>
      obtain ⟨e, sz, rows⟩ := o
      obtain ⟨⟨k, hk⟩, hu⟩ := owns_one hown h0
      have hkC : k < C.size := by rw [h1]; exact (List.getElem?_eq_some_iff.1 hk).1
      have hk2 : T1Rep w G base C[k] (.own e sz rows) := h2 k _ _ hk (Array.getElem?_eq_getElem hkC)
      have hpk : (∀ b, G b → F b) ∨ (rows.all fun r => r.all CV.plain) = true := (hp _ (List.mem_of_getElem? hk)).imp id (by simp [T1.plain])
      obtain ⟨B', g1, g2⟩ := own_state h hn hpk hk2 hbase hFb hb0
      refine ⟨B', by simp only [AState.ret, hown]; exact g1, .tup (by simpa using h1) fun i x v hx hv => ?_, hlo⟩
      simp only [List.getElem?_map, Option.map_eq_some_iff] at hx
      obtain ⟨y, hy, rfl⟩ := hx
      have hm := List.mem_of_getElem? hy
      cases ho : y.isOwn with
      | false => exact plainOnes B' y v hm ho (h2 i y v hy hv)
      | true =>
        have hyk := hu i y hy ho
        subst hyk
        -- only one of the results is its own: it is this one
        have hik : i = k := owns_uniq h0 hy hk
        subst hik
        rw [Array.getElem?_eq_getElem hkC] at hv
        cases hv
        exact g2
  | obox t cells =>
    obtain ⟨b, rfl, ⟨C, hC, hCr⟩, hbb, hGb⟩ := hr
    have hlt : b < w.heap.size := by
      rcases Nat.lt_or_ge b w.heap.size with q | q
      · exact q
      · rw [Array.getElem?_eq_none q] at hC; cases hC
    have hfit : CReps w F C cells := creps_fit (hg.imp id (by simp [RV.plain])) hCr
    refine ⟨_, h.adopt (b := b) (n := 0) hn (fun hf => hGb (hFb b hf hbb)) (fun l m hl => by have := hbase l b m hl; omega) hlt (.inr (by omega)) (o := .box t (cells.map .c)) ?_ ?_, .ref fun b' n' hb' => ?_, by simp [RV.av, AV.lo]⟩
    · refine ⟨C, hC, by simpa using hfit.1, fun j x v hx hv => ?_⟩
      simp only [List.getElem?_map, Option.map_eq_some_iff] at hx
      obtain ⟨y, hy, rfl⟩ := hx
      exact .c (hfit.2 j y v hy hv)
    · intro x hx
      obtain ⟨y, _, rfl⟩ := List.mem_map.1 hx
      simp only [AV.lo]
    · simp only [if_true, Option.some.injEq, Prod.mk.injEq] at hb'
      obtain ⟨rfl, rfl⟩ := hb'
      rfl
  | own e sz rows =>
    obtain ⟨B', g1, g2⟩ := own_state h hn (hg.imp id (by simp [RV.plain])) hr hbase hFb hb0
    exact ⟨B', g1, g2, by simp [RV.av, AV.lo]⟩

theorem snapArgs_sound (h : RelB E s a w F B U) : ∀ {xs args : List AV} {vs : List Value}, snapArgs s xs = some args → vs.length = xs.length → (∀ (i : Nat) x v, xs[i]? = some x → vs[i]? = some v → ARep w F B v x) → Vals w (withObjs F B) vs args
  | [], args, vs, he, hl, _ => by
    simp only [snapArgs, Option.some.injEq] at he
    subst he
    exact ⟨by simpa using hl, fun i x v hx => by simp at hx⟩
  | x :: xs, args, [], he, hl, _ => by simp at hl
  | x :: xs, args, v :: vs, he, hl, hr => by
    simp only [snapArgs] at he
    split at he
    · rename_i y ys h1 h2
      cases he
      obtain ⟨g1, g2⟩ := snapArgs_sound h h2 (by simpa using hl) (fun i x v hx hv => hr (i + 1) x v (by simpa using hx) (by simpa using hv))
      refine ⟨by simp [g1], fun i y' v' hy hv => ?_⟩
      cases i with
      | zero =>
        simp only [List.getElem?_cons_zero, Option.some.injEq] at hy hv
        subst hy hv
        exact snapA_sound h h1 (hr 0 x v rfl rfl)
      | succ i => exact g2 i y' v' (by simpa using hy) (by simpa using hv)
    · cases he

theorem snapL_c (s : AState) : ∀ (k : Nat) (cs : List AV) (ys : List CV), (cs.all fun x => match x with | .c _ => true | _ => false) = true → snapL s k cs = some ys → cs = ys.map .c
  | 0, _, _, _, he => by simp [snapL] at he
  | k + 1, [], ys, _, he => by simp only [snapL, Option.some.injEq] at he; subst he; rfl
  | k + 1, x :: cs, ys, hc, he => by
    simp only [List.all_cons, Bool.and_eq_true] at hc
    simp only [snapL] at he
    split at he
    · rename_i y ys' h1 h2
      cases he
      rw [snapL_c s k cs ys' hc.2 h2]
      cases x <;> simp at hc
      cases k with
      | zero => simp [snap1] at h1
      | succ k =>
        simp only [snap1, Option.some.injEq] at h1
        rw [h1]
        rfl
    · cases he

theorem snapA_closed {x y : AV} (hc : x.closed = true) (he : snapA s x = some y) : y = x := by
  cases x with
  | c z =>
    simp only [snapA, snap1, Option.some.injEq] at he
    exact he.symm
  | agg cs =>
    simp only [snapA] at he
    split at he
    · rename_i vs hvs
      cases he
      rw [snapL_c s 100 cs vs hc hvs]
    · cases he
  | _ => simp [AV.closed] at hc

theorem snapArgs_closed : ∀ {xs args : List AV}, xs.all AV.closed = true → snapArgs s xs = some args → args = xs
  | [], args, _, he => by simp only [snapArgs, Option.some.injEq] at he; exact he.symm
  | x :: xs, args, hc, he => by
    simp only [List.all_cons, Bool.and_eq_true] at hc
    simp only [snapArgs] at he
    split at he
    · rename_i y ys h1 h2
      cases he
      rw [snapA_closed hc.1 h1, snapArgs_closed hc.2 h2]
    · cases he

/-- The tables may be taken for read. -/
theorem RelB.tabs (h : RelB E s a w F B U) : RelB E s a w (fun b => F b ∨ ∃ x ∈ tabs, x.1 = b) B U ∧ LD w (fun b => F b ∨ ∃ x ∈ tabs, x.1 = b) := by
  have hlt : ∀ x ∈ Fw.tabs, x.1 < E.w0.heap.size := fun x hx => by
    obtain ⟨_, o, ho, _⟩ := E.ld x hx
    rcases Nat.lt_or_ge x.1 E.w0.heap.size with q | q
    · exact q
    · rw [Array.getElem?_eq_none q] at ho; cases ho
  have hF : ∀ b, F b → F b ∨ ∃ x ∈ Fw.tabs, x.1 = b := fun b hb => .inl hb
  constructor
  · constructor
    case size => exact h.size
    case defers => exact h.defers
    case os => exact h.os
    case tape => exact h.tape
    case output => exact h.output
    case tmps => exact fun i x v hx hv => (h.tmps i x v hx hv).keep' hF (fun _ _ => rfl)
    case live => exact h.live
    case objs => exact fun l b n o hb ho => (h.objs l b n o hb ho).keep hF (fun _ _ => rfl) (fun _ _ => .inl rfl) rfl (h.wfO l o ho).2
    case inj => exact h.inj
    case apart =>
      rintro l b n hb (hf | ⟨x, hx, rfl⟩)
      · exact h.apart l b n hb hf
      · rcases h.bsrc l x.1 n hb with q | q
        · exact E.ldo x hx q
        · have := hlt x hx; omega
    case flt =>
      rintro b (hb | ⟨x, hx, rfl⟩)
      · exact h.flt b hb
      · have := hlt x hx; have := h.grown; omega
    case blt => exact h.blt
    case fsrc =>
      rintro b (hb | ⟨x, hx, rfl⟩)
      · exact h.fsrc b hb
      · exact .inl (E.ld x hx).1
    case bsrc => exact h.bsrc
    case frame => exact h.frame
    case grown => exact h.grown
    case wfT => exact h.wfT
    case wfO => exact h.wfO
    case anchor => exact h.anchor
  · intro x hx
    obtain ⟨_, o, ho, hp⟩ := E.ld x hx
    exact ⟨.inr ⟨x, hx, rfl⟩, o, by rw [h.frame x.1 (hlt x hx) (E.ldo x hx)]; exact ho, hp⟩
theorem LD.mono {S S' : Nat → Prop} (h : LD w S) (hS : ∀ b, S b → S' b) : LD w S' := fun x hx => ⟨hS _ (h x hx).1, (h x hx).2⟩

theorem closed_vals {xs : List AV} {vs : List Value} (hc : xs.all AV.closed = true) (hl : vs.length = xs.length) (hr : ∀ (i : Nat) x v, xs[i]? = some x → vs[i]? = some v → ARep w F B v x) : Vals w F vs xs :=
  ⟨hl, fun i x v hx hv => closed_rep (List.all_eq_true.1 hc x (List.mem_of_getElem? hx)) (hr i x v hx hv)⟩

theorem calls_sound1 {q : Bool} (h0 : RelB E s a w F B U) {nid : Nat} (hn : ¬ U nid) {f : FuncId} {xs : List AV} {vs : List Value} (hl : vs.length = xs.length) (hr0 : ∀ (i : Nat) x v, xs[i]? = some x → vs[i]? = some v → ARep w F B v x) {K : AV → AState → Prop} (hc : acall1 q P s nid f xs K) :
    Enters P f ∧ Calls P f vs.toArray w fun e w' => ∃ v x s' F' B', e = .returned v ∧ K x s' ∧ RelB E s' a w' F' B' (fun l => U l ∨ l = nid) ∧ ARep w' F' B' v x ∧ x.lo (fun l => U l ∨ l = nid) := by
  obtain ⟨h, hld⟩ := h0.tabs
  have hr : ∀ (i : Nat) x v, xs[i]? = some x → vs[i]? = some v → ARep w (fun b => F b ∨ ∃ x ∈ tabs, x.1 = b) B v x := fun i x v hx hv => (hr0 i x v hx hv).keep' (fun _ hb => .inl hb) (fun _ _ => rfl)
  clear hr0 h0
  generalize (fun b => F b ∨ ∃ x ∈ tabs, x.1 = b) = F at *
  rcases hc with ⟨args, r, h1, h2, ⟨hE, h3, h4⟩, hK⟩ | ⟨_, l, t, cs, cells, rest, out, r, rfl, ho, hcs, hrc, ⟨hE, h3, h4⟩, hK⟩ | ⟨_, l, e, sz, rows, rest, args, rows', r, rfl, ho, h1, hpl, hpr, ⟨hE, h3, h4⟩, hK⟩
  · refine ⟨hE, ?_⟩
    have hV : ∃ S : Nat → Prop, (∀ b, S b → b < w.heap.size) ∧ LD w S ∧ Vals w S vs args ∧ ((∀ b, S b → F b) ∨ r.plain = true) := by
      by_cases hcl : xs.all AV.closed = true
      · have := snapArgs_closed hcl h1
        subst this
        exact ⟨F, h.flt, hld, closed_vals hcl hl hr, .inl fun _ h => h⟩
      · refine ⟨withObjs F B, ?_, hld.mono (fun _ hb => .inl hb), snapArgs_sound h h1 hl hr, .inr (h2.resolve_left hcl)⟩
        rintro b (hb | ⟨l, n, hb⟩)
        · exact h.flt b hb
        · exact h.blt l b n hb
    obtain ⟨S, hS, hlS, hV, hg⟩ := hV
    have hcall := h4 w S 0 [] vs hS hlS rfl hV
    rw [List.nil_append] at hcall
    refine hcall.mono ?_
    rintro e w' ⟨v, F', rfl, hp⟩
    have hlt : ∀ b, (F b ∨ (w.heap.size ≤ b ∧ F' b)) → b < w'.heap.size := by
      rintro b (q | q)
      · have := h.flt b q; have := hp.size; omega
      · exact hp.lt b q.2
    have hrel := h.grow (w' := w') (F1 := fun b => F b ∨ (w.heap.size ≤ b ∧ F' b)) (fun _ h => .inl h) (fun b hb => hb.imp id (·.1)) hlt (fun b hb => hp.frame b hb (by simp [IoOwn])) hp.size hp.os hp.tape hp.output
    have hg' : (∀ b, F' b → F b ∨ (w.heap.size ≤ b ∧ F' b)) ∨ r.plain = true := by
      refine hg.imp (fun hS b hb => ?_) id
      rcases hp.src b hb with q | q
      · exact .inl (hS b q)
      · exact .inr ⟨q, hb⟩
    have hnew : ∀ b, (F b ∨ (w.heap.size ≤ b ∧ F' b)) → w.heap.size ≤ b → F' b := by
      rintro b (q | q) hle
      · have := h.flt b q; omega
      · exact q.2
    obtain ⟨B', g1, g2, g3⟩ := ret_state hrel (base := w.heap.size) hn (G := F') hg' hp.res (fun l b n hb => h.blt l b n hb) hnew h.grown
    exact ⟨v, _, _, _, B', rfl, hK, g1, g2, g3⟩
  · refine ⟨hE, ?_⟩
    obtain ⟨p, n, hb, C, hC, hCs, hCr⟩ := obj_B h ho
    obtain ⟨v0, vs', rfl⟩ : ∃ v0 vs', vs = v0 :: vs' := by
      match vs, hl with
      | v0 :: vs', _ => exact ⟨v0, vs', rfl⟩
    have hv0 := hr 0 _ v0 rfl rfl
    cases hv0 with | ref hv0 =>
    obtain rfl := hv0 p n hb
    have hcv := toCVs_some hcs
    have hvar : VarAt w F p t cells := by
      refine ⟨C, hC, by rw [hCs, hcv, List.length_map], fun j x v hx hv => ?_⟩
      have := hCr j (.c x) v (by rw [hcv, List.getElem?_map, hx]; rfl) hv
      cases this with | c this => exact this
    have hcall := h4 w F p [.pointer (some ⟨p, 0, none⟩)] vs' h.flt hld ⟨rfl, hvar, h.apart l p n hb⟩ (closed_vals hrc (by simpa using hl) (fun i x v hx hv => hr (i + 1) x v (by simpa using hx) (by simpa using hv)))
    refine hcall.mono ?_
    rintro e w' ⟨v, F', rfl, hp⟩
    have hF'1 : ∀ b, F' b → F b ∨ (w.heap.size ≤ b ∧ F' b) := fun b hb => (hp.src b hb).imp id fun q => ⟨q, hb⟩
    have hout : VarAt w' (fun b => F b ∨ (w.heap.size ≤ b ∧ F' b)) p t out := by
      obtain ⟨D, g1, g2⟩ := hp.out
      exact ⟨D, g1, creps_fit (.inl hF'1) g2⟩
    have hlt : ∀ b, (F b ∨ (w.heap.size ≤ b ∧ F' b)) → b < w'.heap.size := by
      rintro b (q | q)
      · have := h.flt b q; have := hp.size; omega
      · exact hp.lt b q.2
    have hrel := h.io hb ho (w' := w') (F1 := fun b => F b ∨ (w.heap.size ≤ b ∧ F' b)) (fun _ h => .inl h) (fun b hb => hb.imp id (·.1)) hlt (fun b hb hne => hp.frame b hb (by simp [IoOwn, hne])) hp.size hp.os hp.tape hp.output hout
    have hnew : ∀ b, (F b ∨ (w.heap.size ≤ b ∧ F' b)) → w.heap.size ≤ b → F' b := by
      rintro b (q | q) hle
      · have := h.flt b q; omega
      · exact q.2
    obtain ⟨B', g1, g2, g3⟩ := ret_state hrel (base := w.heap.size) hn (G := F') (.inl hF'1) hp.res (fun l b n hb => h.blt l b n hb) hnew h.grown
    exact ⟨v, _, _, _, B', rfl, hK, g1, g2, g3⟩

  · refine ⟨hE, ?_⟩
    obtain ⟨p, n, hb, hok⟩ := obj_B h ho
    obtain ⟨v0, vs', rfl⟩ : ∃ v0 vs', vs = v0 :: vs' := by
      match vs, hl with
      | v0 :: vs', _ => exact ⟨v0, vs', rfl⟩
    have hv0 := hr 0 _ v0 rfl rfl
    cases hv0 with | lsl hv0 =>
    obtain ⟨hle, ad, rfl, had⟩ := hv0 p n hb
    obtain rfl := had (.inr rfl)
    rw [Nat.zero_mul, Nat.sub_zero]
    have hd := h.drop l
    have hrest : ∀ (i : Nat) x v, rest[i]? = some x → vs'[i]? = some v → ARep w F (fun k => if k = l then none else B k) v x := fun i x v hx hv =>
      (hr (i + 1) x v (by simpa using hx) (by simpa using hv)).keep (N := fun _ => True) (fun _ h => h) (fun _ _ => rfl) (fun k _ => by
        by_cases e : k = l
        · exact .inr (if_pos e)
        · exact .inl (if_neg e)) (AV.lo_mono (fun _ _ => trivial) x (lo_true x))
    have hV := snapArgs_sound hd h1 (by simpa using hl) hrest
    have hS : ∀ b, withObjs F (fun k => if k = l then none else B k) b → b < w.heap.size := by
      rintro b (hb' | ⟨k, m, hb'⟩)
      · exact h.flt b hb'
      · exact hd.blt k b m hb'
    have hSp : ¬ withObjs F (fun k => if k = l then none else B k) p := by
      rintro (hb' | ⟨k, m, hb'⟩)
      · exact h.apart l p n hb hb'
      · by_cases hkl : k = l
        · simp [hkl] at hb'
        · simp only [if_neg hkl] at hb'
          exact hkl (h.inj k l p m n hb' hb)
    have hok' : ArrAt w (withObjs F (fun k => if k = l then none else B k)) p n e sz rows := by
      obtain ⟨C, g1, g2, g3, g3', g4⟩ := hok
      exact ⟨C, g1, g2, g3, g3', fun i row hr' => ⟨(g4 i row hr').1, fun j x v hx hv => ((g4 i row hr').2 j x v hx hv).keep (fun b hb' => .inl hb') (fun _ _ => rfl)⟩⟩
    have hcall := h4 w _ p n vs' hS (hld.mono (fun _ hb => .inl hb)) hok' hSp hV
    refine hcall.mono ?_
    rintro ex w' ⟨v, F', rfl, hp⟩
    have hlt : ∀ b, (F b ∨ (w.heap.size ≤ b ∧ F' b)) → b < w'.heap.size := by
      rintro b (q | q)
      · have := h.flt b q; have := hp.size; omega
      · exact hp.lt b q.2
    have hout : ArrAt w' (fun b => F b ∨ (w.heap.size ≤ b ∧ F' b)) p n e sz rows' := by
      obtain ⟨C, g1, g2, g3, g3', g4⟩ := hp.out
      exact ⟨C, g1, g2, g3, g3', fun i row hr' => ⟨(g4 i row hr').1, fun j x v hx hv => plain_rep (List.all_eq_true.1 (List.all_eq_true.1 hpr row (List.mem_of_getElem? hr')) x (List.mem_of_getElem? hx)) ((g4 i row hr').2 j x v hx hv)⟩⟩
    have hrel := h.ioA hb ho (w' := w') (F1 := fun b => F b ∨ (w.heap.size ≤ b ∧ F' b)) (fun _ h => .inl h) (fun b hb => hb.imp id (·.1)) hlt (fun b hb hne => hp.frame b hb hne) hp.size hp.os hp.tape hp.output hout
    have hnew : ∀ b, (F b ∨ (w.heap.size ≤ b ∧ F' b)) → w.heap.size ≤ b → F' b := by
      rintro b (q | q) hle
      · have := h.flt b q; omega
      · exact q.2
    obtain ⟨B', g1, g2, g3⟩ := ret_state hrel (base := w.heap.size) hn (G := F') (.inr hpl) hp.res (fun l b n hb => h.blt l b n hb) hnew h.grown
    exact ⟨v, _, _, _, B', rfl, hK, g1, g2, g3⟩

theorem calls_sound {q : Bool} (h : RelB E s a w F B U) {nid : Nat} (hn : ¬ U nid) {f : FuncId} {xs : List AV} {vs : List Value} (hl : vs.length = xs.length) (hr : ∀ (i : Nat) x v, xs[i]? = some x → vs[i]? = some v → ARep w F B v x) {K : AV → AState → Prop} (hc : acall q P s nid f xs K) :
    Enters P f ∧ Calls P f vs.toArray w fun e w' => ∃ v x s' F' B', e = .returned v ∧ K x s' ∧ RelB E s' a w' F' B' (fun l => U l ∨ l = nid) ∧ ARep w' F' B' v x ∧ x.lo (fun l => U l ∨ l = nid) := by
  rcases hc with hc | ⟨_, ls, hc⟩
  · exact calls_sound1 h hn hl hr hc
  · obtain ⟨F', B', h', hr', hl'⟩ := RelB.fzL ls h hr hl
    exact calls_sound1 h' hn hl' hr' hc

end
end Go.Proofs.Ytnnpjblpiecfdaa.Fw
