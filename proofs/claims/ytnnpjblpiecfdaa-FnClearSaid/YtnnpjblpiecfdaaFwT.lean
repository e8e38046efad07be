/- What an operation tells hangs on its operands and on the objects that they lead to. -/
import Derived.Test.YtnnpjblpiecfdaaFwS
namespace Go.Proofs.Ytnnpjblpiecfdaa.Fw
open Go.RowKit
set_option linter.unusedVariables false
set_option linter.unusedSimpArgs false

/-- The two states agree on the objects of U, and U is closed. -/
structure Agree (U : Nat → Prop) (s t : AState) : Prop where
  objs : ∀ l, U l → s.objs l = t.objs l
  lo : ∀ l o, U l → s.objs l = some o → o.lo U

/-- The two states agree on the objects of U. -/
structure AgreeO (U : Nat → Prop) (s t : AState) : Prop where
  objs : ∀ l, U l → s.objs l = t.objs l

theorem Agree.o {U : Nat → Prop} {s t : AState} (h : Agree U s t) : AgreeO U s t := ⟨h.objs⟩

section
variable {P : Program} {T : Tab} {s t : AState} {U : Nat → Prop}

theorem AgreeO.alive (h : AgreeO U s t) {l : Nat} (hl : U l) : s.alive l = t.alive l := by simp only [AState.alive, h.objs l hl]

theorem cellsOf_congr (h : AgreeO U s t) {x : AV} (hx : x.lo U) : cellsOf s x = cellsOf t x := by
  cases x with
  | ref l off => simp only [AV.lo] at hx; simp only [cellsOf, h.alive hx]
  | eref l sz k off => simp only [AV.lo] at hx; simp only [cellsOf, h.alive hx]
  | lsl l sz off len => simp only [AV.lo] at hx; simp only [cellsOf, h.alive hx]
  | _ => rfl

theorem readAt_congr (h : AgreeO U s t) (n : Nat) {x : AV} (hx : x.lo U) : readAt s n x = readAt t n x := by
  cases x with
  | ref l off => simp only [AV.lo] at hx; simp only [readAt, h.objs _ hx]
  | eref l sz i off => simp only [AV.lo] at hx; simp only [readAt, h.objs _ hx]
  | c y => cases y <;> rfl
  | _ => rfl

theorem abin_congr (h : AgreeO U s t) (op : BinOp) (ty : TypeId) {x y : AV} (hx : x.lo U) : abin T s op ty x y = abin T t op ty x y := by
  unfold abin
  split <;> rfl

theorem anil_congr (h : AgreeO U s t) {x : AV} (hx : x.lo U) : anil s x = anil t x := by
  cases x with
  | ref l off => simp only [AV.lo] at hx; simp only [anil, h.alive hx]
  | eref l sz k off => simp only [AV.lo] at hx; simp only [anil, h.alive hx]
  | c y => cases y <;> rfl
  | _ => rfl

theorem afieldAddr_congr (h : AgreeO U s t) (ty : TypeId) (f : Nat) {x : AV} (hx : x.lo U) : afieldAddr T s ty f x = afieldAddr T t ty f x := by
  unfold afieldAddr
  split <;> try rfl
  split <;> try rfl
  split <;> try rfl
  split <;> try rfl
  split <;> try rfl
  cases x with
  | ref l off => simp only [AV.lo] at hx; simp only [h.alive hx]
  | eref l sz k off => simp only [AV.lo] at hx; simp only [h.alive hx]
  | c y => cases y <;> rfl
  | _ => rfl

theorem aindexAddr_congr (h : AgreeO U s t) (ty : TypeId) {x i : AV} (hx : x.lo U) : aindexAddr T s ty x i = aindexAddr T t ty x i := by
  unfold aindexAddr
  split <;> try rfl
  split <;> try rfl
  · split <;> try rfl
    cases x with
    | lsl l sz k off => simp only [AV.lo] at hx; simp only [h.alive hx]
    | c y =>
      cases y with
      | sl nl => cases nl <;> rfl
      | _ => rfl
    | _ => rfl
  · split <;> try rfl
    split <;> try rfl
    cases x with
    | ref l off => simp only [AV.lo] at hx; simp only [h.alive hx]
    | eref l sz k off => simp only [AV.lo] at hx; simp only [h.alive hx]
    | c y => cases y <;> rfl
    | _ => rfl

theorem aslice_congr (h : AgreeO U s t) (ty : TypeId) {x : AV} (lo hi mx : Option AV) (hx : x.lo U) : aslice T s ty x lo hi mx = aslice T t ty x lo hi mx := by
  unfold aslice
  split <;> try rfl
  split <;> try rfl
  simp only [AV.lo] at hx
  simp only [h.alive hx]

theorem alen_congr (h : AgreeO U s t) (ty : TypeId) {x : AV} (hx : x.lo U) : alen T s ty x = alen T t ty x := by
  unfold alen
  split <;> try rfl
  simp only [AV.lo] at hx
  simp only [h.alive hx]

theorem afill_congr (h : AgreeO U s t) (place : Nat → Option (Nat × Nat)) : ∀ (parts : List (Nat × AV)) (cells : List AV), (∀ p ∈ parts, p.2.lo U) → afill s place cells parts = afill t place cells parts
  | [], _, _ => rfl
  | (i, x) :: parts, cells, hp => by
    have hx : x.lo U := hp (i, x) List.mem_cons_self
    have ih := fun c => afill_congr h place parts c (fun p hp' => hp p (List.mem_cons_of_mem _ hp'))
    simp only [afill, cellsOf_congr h hx, ih]

theorem abuild_congr (h : AgreeO U s t) (ty : TypeId) (parts : List (Nat × AV)) (hp : ∀ p ∈ parts, p.2.lo U) : abuild T s ty parts = abuild T t ty parts := by
  simp only [abuild, afill_congr h _ parts _ hp]

mutual
theorem snap1_congr (h : Agree U s t) : ∀ (k : Nat) {x : AV}, x.lo U → snap1 s k x = snap1 t k x
  | 0, _, _ => by simp only [snap1]
  | k + 1, x, hx => by
    cases x with
    | ref l off =>
      simp only [AV.lo] at hx
      simp only [snap1, h.objs l hx]
      cases ho : t.objs l with
      | none => rfl
      | some o =>
        cases o with
        | box ty cells =>
          have hl := h.lo l _ hx ((h.objs l hx).trans ho)
          simp only [snapL_congr h k (xs := cells.drop off) (fun y hy => hl y (List.mem_of_mem_drop hy))]
        | arr e sz rows => rfl
        | brr e sz rows => rfl
    | eref l sz i off => simp only [AV.lo] at hx; simp only [snap1, h.objs l hx]
    | lsl l sz off len => simp only [AV.lo] at hx; simp only [snap1, h.objs l hx]
    | fn f caps => simp only [AV.lo] at hx; simp only [snap1, snapL_congr h k (xs := caps) hx]
    | _ => simp only [snap1]
theorem snapL_congr (h : Agree U s t) : ∀ (k : Nat) {xs : List AV}, (∀ x ∈ xs, x.lo U) → snapL s k xs = snapL t k xs
  | 0, _, _ => by simp only [snapL]
  | k + 1, [], _ => by simp only [snapL]
  | k + 1, x :: xs, hx => by
    simp only [snapL, snap1_congr h k (hx x List.mem_cons_self), snapL_congr h k (xs := xs) (fun y hy => hx y (List.mem_cons_of_mem _ hy))]
end

theorem snapA_congr (h : Agree U s t) {x : AV} (hx : x.lo U) : snapA s x = snapA t x := by
  cases x with
  | agg cs => simp only [AV.lo] at hx; simp only [snapA, snapL_congr h 100 hx]
  | _ => simp only [snapA, snap1_congr h 100 hx]

theorem snapArgs_congr (h : Agree U s t) : ∀ (xs : List AV), (∀ x ∈ xs, x.lo U) → snapArgs s xs = snapArgs t xs
  | [], _ => rfl
  | x :: xs, hx => by simp only [snapArgs, snapA_congr h (hx x List.mem_cons_self), snapArgs_congr h xs (fun y hy => hx y (List.mem_cons_of_mem _ hy))]

/-- The operands read the same. -/
structure Same (U : Nat → Prop) (s t : AState) (op : Op) : Prop where
  eval : ∀ x ∈ op.operands.toList, s.eval x = t.eval x
  lo : ∀ x ∈ op.operands.toList, (s.eval x).lo U

theorem abuiltin_congr (h : AgreeO U s t) (b : Builtin) (ts : List TypeId) (xs : List AV) (hx : ∀ x ∈ xs, x.lo U) : abuiltin T s b ts xs = abuiltin T t b ts xs := by
  cases b with
  | len =>
    match ts, xs with
    | [ty], [x] => simp only [abuiltin]; exact alen_congr h ty (hx x (by simp))
    | [], _ => rfl
    | [_], [] => rfl
    | [_], _ :: _ :: _ => rfl
    | _ :: _ :: _, _ => rfl
  | _ => rfl

theorem map_eval {s t : AState} {l : List Operand} (h : ∀ x ∈ l, s.eval x = t.eval x) : l.map s.eval = l.map t.eval := List.map_congr_left h
theorem map_lo' {s : AState} {l : List Operand} (h : ∀ x ∈ l, (s.eval x).lo U) : ∀ y ∈ l.map s.eval, y.lo U := by
  intro y hy
  obtain ⟨x, hx, rfl⟩ := List.mem_map.1 hy
  exact h x hx

theorem apure_congr (h : AgreeO U s t) {op : Op} (hs : Same U s t op) : apure T s op = apure T t op := by
  obtain ⟨he, hl⟩ := hs
  cases op with
  | move x => simp only [apure, he x (by simp [Op.operands])]
  | assign x => simp only [apure, he x (by simp [Op.operands])]
  | pick c a b => simp only [apure, he c (by simp [Op.operands]), he a (by simp [Op.operands]), he b (by simp [Op.operands])]
  | load ty p =>
    have e := he p (by simp [Op.operands])
    have l := hl p (by simp [Op.operands])
    rw [e] at l
    simp only [apure, e, readAt_congr h _ l]
  | nilCheck x =>
    have e := he x (by simp [Op.operands])
    have l := hl x (by simp [Op.operands])
    rw [e] at l
    simp only [apure, e, anil_congr h l]
  | binOp op ty x y yt =>
    have e := he x (by simp [Op.operands])
    have l := hl x (by simp [Op.operands])
    rw [e] at l
    simp only [apure, e, he y (by simp [Op.operands]), abin_congr h op ty l]
  | unOp op ty x => simp only [apure, he x (by simp [Op.operands])]
  | convert a b x => simp only [apure, he x (by simp [Op.operands])]
  | sliceToArrayPointer a x => simp only [apure, he x (by simp [Op.operands])]
  | slice ty x lo hi mx =>
    have e := he x (by simp [Op.operands])
    have l := hl x (by simp [Op.operands])
    rw [e] at l
    have e1 : lo.map s.eval = lo.map t.eval := by cases lo with | none => rfl | some y => simp only [Option.map, he y (by simp [Op.operands])]
    have e2 : hi.map s.eval = hi.map t.eval := by cases hi with | none => rfl | some y => simp only [Option.map, he y (by simp [Op.operands])]
    have e3 : mx.map s.eval = mx.map t.eval := by cases mx with | none => rfl | some y => simp only [Option.map, he y (by simp [Op.operands])]
    simp only [apure, e, e1, e2, e3, aslice_congr h ty _ _ _ l]
  | fieldAddr ty x f =>
    have e := he x (by simp [Op.operands])
    have l := hl x (by simp [Op.operands])
    rw [e] at l
    simp only [apure, e, afieldAddr_congr h ty f l]
  | field ty x f => simp only [apure, he x (by simp [Op.operands])]
  | indexAddr ty x i =>
    have e := he x (by simp [Op.operands])
    have l := hl x (by simp [Op.operands])
    rw [e] at l
    simp only [apure, e, he i (by simp [Op.operands]), aindexAddr_congr h ty l]
  | index ty x i => simp only [apure, he x (by simp [Op.operands]), he i (by simp [Op.operands])]
  | extract x i => simp only [apure, he x (by simp [Op.operands])]
  | makeFunc fn first caps =>
    have e : caps.toList.map s.eval = caps.toList.map t.eval := map_eval fun x hx => he x (by simp [Op.operands] at hx ⊢; exact .inr hx)
    simp only [apure, e]
  | call c =>
    simp only [apure]
    cases hc : c.callee with
    | builtin b =>
      have e : c.args.toList.map s.eval = c.args.toList.map t.eval := map_eval fun x hx => he x (by simp [Op.operands, Call.operands, hc] at hx ⊢; exact hx)
      have l : ∀ y ∈ c.args.toList.map t.eval, y.lo U := by
        rw [← e]
        exact map_lo' fun x hx => hl x (by simp [Op.operands, Call.operands, hc] at hx ⊢; exact hx)
      simp only [e]
      exact abuiltin_congr h b _ _ l
    | _ => rfl
  | _ => rfl

/-- The operations that leave the objects that are there as they are. -/
def quietKind : Op → Bool
  | .store .. => false
  | .call c => match c.callee with
    | .builtin .append => false
    | .builtin .copy => false
    | _ => true
  | _ => true

theorem aeff_congr (h : AgreeO U s t) {op : Op} (hs : Same U s t op) (hq : quietKind op = true) (nid : Nat) : aeff T s nid op = aeff T t nid op := by
  obtain ⟨he, hl⟩ := hs
  have hp : apure T s op = apure T t op := apure_congr h ⟨he, hl⟩
  cases op with
  | store => simp [quietKind] at hq
  | alloc ty => rfl
  | box ty x =>
    have e := he x (by simp [Op.operands])
    have l := hl x (by simp [Op.operands])
    rw [e] at l
    simp only [aeff, e, cellsOf_congr h l]
  | build ty parts =>
    have e : (parts.toList.map fun p => (p.1, s.eval p.2)) = (parts.toList.map fun p => (p.1, t.eval p.2)) := List.map_congr_left fun p hp' => by rw [he p.2 (by simp [Op.operands] at hp' ⊢; exact ⟨_, hp'⟩)]
    have l : ∀ p ∈ (parts.toList.map fun p => (p.1, t.eval p.2)), p.2.lo U := by
      intro p hp'
      obtain ⟨q, hq', rfl⟩ := List.mem_map.1 hp'
      have h1 : q.2 ∈ (Op.build ty parts).operands.toList := by simp [Op.operands] at hq' ⊢; exact ⟨_, hq'⟩
      have := hl q.2 h1
      rwa [he q.2 h1] at this
    simp only [aeff, e, abuild_congr h ty _ l]
  | buildSlice ty n parts =>
    have e : (parts.toList.map fun p => (p.1, s.eval p.2)) = (parts.toList.map fun p => (p.1, t.eval p.2)) := List.map_congr_left fun p hp' => by rw [he p.2 (by simp [Op.operands] at hp' ⊢; exact ⟨_, hp'⟩)]
    have l : ∀ p ∈ (parts.toList.map fun p => (p.1, t.eval p.2)), p.2.lo U := by
      intro p hp'
      obtain ⟨q, hq', rfl⟩ := List.mem_map.1 hp'
      have h1 : q.2 ∈ (Op.buildSlice ty n parts).operands.toList := by simp [Op.operands] at hq' ⊢; exact ⟨_, hq'⟩
      have := hl q.2 h1
      rwa [he q.2 h1] at this
    simp only [aeff, e, afill_congr h _ _ _ l]
  | makeSlice ty a b => simp only [aeff, he a (by simp [Op.operands]), he b (by simp [Op.operands])]
  | call c =>
    cases hc : c.callee with
    | builtin b =>
      have e : c.args.toList.map s.eval = c.args.toList.map t.eval := map_eval fun x hx => he x (by simp [Op.operands, Call.operands, hc] at hx ⊢; exact hx)
      have l : ∀ y ∈ c.args.toList.map t.eval, y.lo U := by
        rw [← e]
        exact map_lo' fun x hx => hl x (by simp [Op.operands, Call.operands, hc] at hx ⊢; exact hx)
      cases b <;> first
        | (simp only [aeff, hc, e, abuiltin_congr h _ _ _ l]; done)
        | (simp [quietKind, hc] at hq; done)
    | _ => simp only [aeff, hc]
  | _ => simp only [aeff, hp]

/-- A quiet operation's effect: nothing, or a new object. -/
def Eff.quiet : Eff → Bool
  | .no | .new _ => true
  | _ => false

theorem aeff_quiet {op : Op} {nid : Nat} {x : AV} {e : Eff} (hq : quietKind op = true) (h : aeff T s nid op = some (x, e)) : e.quiet = true := by
  unfold aeff at h
  split at h
  case h_7 c =>
    split at h
    · simp [quietKind, *] at hq
    · split at h
      · cases h; rfl
      · cases h
    · cases h
  all_goals first
    | (simp [quietKind] at hq; done)
    | (repeat' (split at h)) <;> first | (cases h; done) | (cases h; rfl)

end
end Go.Proofs.Ytnnpjblpiecfdaa.Fw
