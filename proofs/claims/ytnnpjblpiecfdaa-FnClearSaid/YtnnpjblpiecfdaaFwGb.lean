/- Calls and results that tell less. No condition. -/
import Derived.Test.YtnnpjblpiecfdaaFwGa
namespace Go.Proofs.Ytnnpjblpiecfdaa.Fw
open Go.RowKit
set_option linter.unusedVariables false
set_option linter.unusedSimpArgs false
section
variable {q : Bool} {P : Program} {T : Tab} {s : AState}
/-! ### a look at a value, told less -/
def cellW (s : AState) (k : Nat) (x : AV) (y : CV) : Prop := ∃ z, snap1 s k x = some z ∧ CWk z y
def cellsW (s : AState) (k : Nat) (xs : List AV) (ys : List CV) : Prop := ∃ zs, snapL s k xs = some zs ∧ CWkL zs ys
theorem cellW_c {k : Nat} {x y : CV} (h : CWk x y) : cellW s (k + 1) (.c x) y := ⟨x, by simp [snap1], h⟩
theorem cellW_take (m : Nat) {k : Nat} {xs : List CV} : cellW s (k + 1) (.c (.rp xs)) (.rp (xs.take m)) := ⟨.rp xs, by simp [snap1], fun h => by
  cases h with
  | rp f h1 h2 =>
    refine .rp f (fun j y hy => h1 j y ?_) (fun j y hy => h2 j y ?_)
    all_goals (rw [List.getElem?_take] at hy; split at hy; exact hy; cases hy)⟩
theorem cellW_lsl {k l z n e : Nat} {rows : List (List CV)} (ho : s.objs l = some (.arr e z rows)) (hn : n = rows.length) : cellW s (k + 1) (.lsl l z 0 n) (.sl true false z rows) :=
  ⟨_, snap1_lsl ho hn, CWk.sl⟩
theorem cellW_part {k l z off n e : Nat} {rows : List (List CV)} (ho : s.objs l = some (.arr e z rows)) (hn : off + n ≤ rows.length) : cellW s (k + 1) (.lsl l z off n) (.sl true false z ((rows.drop off).take n)) :=
  ⟨_, by simp only [snap1, ho, true_and]; rw [if_pos hn], CWk.sl⟩
theorem cellsW_nil {k : Nat} : cellsW s (k + 1) [] [] := ⟨[], by simp [snapL], trivial⟩
theorem cellsW_cons {k : Nat} {x : AV} {y : CV} {xs : List AV} {ys : List CV} (h1 : cellW s k x y) (h2 : cellsW s k xs ys) : cellsW s (k + 1) (x :: xs) (y :: ys) := by
  obtain ⟨z, g1, g2⟩ := h1
  obtain ⟨zs, g3, g4⟩ := h2
  exact ⟨z :: zs, by simp [snapL, g1, g3], g2, g4⟩
theorem cellW_ref {k l off t : Nat} {cells : List AV} {ys : List CV} (ho : s.objs l = some (.box t cells)) (h : cellsW s k (cells.drop off) ys) : cellW s (k + 1) (.ref l off) (.rp ys) := by
  obtain ⟨zs, g1, g2⟩ := h
  exact ⟨.rp zs, by simp only [snap1, ho, g1], CWk.rp g2⟩
def argW (s : AState) (x y : AV) : Prop := ∃ z, snapA s x = some z ∧ AWk z y
def argsW (s : AState) (xs ys : List AV) : Prop := ∃ zs, snapArgs s xs = some zs ∧ AWkL zs ys
def cellsA (s : AState) (k : Nat) (xs ys : List AV) : Prop := ∃ cs, ys = cs.map .c ∧ cellsW s k xs cs
theorem cellsA_nil {k : Nat} : cellsA s (k + 1) [] [] := ⟨[], rfl, cellsW_nil⟩
theorem cellsA_cons {k : Nat} {x : AV} {y : CV} {xs ys : List AV} (h1 : cellW s k x y) (h2 : cellsA s k xs ys) : cellsA s (k + 1) (x :: xs) (.c y :: ys) := by
  obtain ⟨cs, rfl, g2⟩ := h2
  exact ⟨y :: cs, rfl, cellsW_cons h1 g2⟩
theorem AWkL.ofC : ∀ {xs ys : List CV}, CWkL xs ys → AWkL (xs.map .c) (ys.map .c)
  | [], [], _ => trivial
  | x :: xs, y :: ys, h => ⟨AWk.c h.1, AWkL.ofC h.2⟩
  | [], _ :: _, h => h.elim
  | _ :: _, [], h => h.elim
theorem argW_v {x : AV} {y : CV} (h : cellW s 100 x y) (hx : ∀ cs, x ≠ .agg cs) : argW s x (.c y) := by
  obtain ⟨z, g1, g2⟩ := h
  refine ⟨.c z, ?_, AWk.c g2⟩
  cases x with
  | agg cs => exact absurd rfl (hx cs)
  | _ => simp only [snapA, g1]
theorem argW_agg {xs ys : List AV} (h : cellsA s 100 xs ys) : argW s (.agg xs) (.agg ys) := by
  obtain ⟨cs, rfl, zs, g1, g2⟩ := h
  exact ⟨.agg (zs.map .c), by simp only [snapA, g1], AWk.agg (AWkL.ofC g2)⟩
theorem argsW_nil : argsW s [] [] := ⟨[], rfl, trivial⟩
theorem argsW_cons {x y : AV} {xs ys : List AV} (h1 : argW s x y) (h2 : argsW s xs ys) : argsW s (x :: xs) (y :: ys) := by
  obtain ⟨z, g1, g2⟩ := h1
  obtain ⟨zs, g3, g4⟩ := h2
  exact ⟨z :: zs, by simp [snapArgs, g1, g3], g2, g4⟩
theorem snapArgs_lo : ∀ {xs zs : List AV}, snapArgs s xs = some zs → ∀ z ∈ zs, z.lo (fun _ => False)
  | [], zs, h, z, hz => by simp only [snapArgs, Option.some.injEq] at h; subst h; cases hz
  | x :: xs, zs, h, z, hz => by
    simp only [snapArgs] at h
    split at h
    · rename_i y ys h1 h2
      cases h
      rcases List.mem_cons.1 hz with rfl | hz
      · cases x with
        | agg cs =>
          simp only [snapA] at h1
          split at h1
          · cases h1; simp only [AV.lo]; intro x hx; obtain ⟨u, _, rfl⟩ := List.mem_map.1 hx; simp only [AV.lo]
          · cases h1
        | _ => (simp only [snapA] at h1; split at h1 <;> first | (cases h1; simp only [AV.lo]; done) | cases h1)
      · exact snapArgs_lo h2 z hz
    · cases h
theorem Ret.args {f : FuncId} {io : Option (TypeId × List CV)} {args0 args : List AV} {out : List CV} {r : RV} (hlo : ∀ x ∈ args0, x.lo (fun _ => False)) (h : AWkL args0 args) (hR : Ret P f io args out r) : Ret P f io args0 out r := by
  refine ⟨hR.1, hlo, fun w S p l vs hS hld hio hv => hR.2.2 w S p l vs hS hld hio ⟨hv.1.trans h.get.1.symm, fun i x v hx hvv => ?_⟩⟩
  obtain ⟨y, g1, g2⟩ := h.get.2 i x hx
  exact g2.rep (hv.2 i y v g1 hvv)
theorem Ret.cells {f : FuncId} {t : TypeId} {cells0 cells : List CV} {args : List AV} {out : List CV} {r : RV} (h : CWkL cells0 cells) (hR : Ret P f (some (t, cells)) args out r) : Ret P f (some (t, cells0)) args out r := by
  refine ⟨hR.1, hR.2.1, fun w S p l vs hS hld hio hv => ?_⟩
  obtain ⟨h1, ⟨C, h2, h3⟩, h4⟩ := hio
  refine (hR.2.2 w S p l vs hS hld ⟨h1, ⟨C, h2, h.creps h3⟩, h4⟩ hv).mono ?_
  rintro e w' ⟨v, F', h5, h6⟩
  exact ⟨v, F', h5, { h6 with out := h6.out }⟩
/-- A call; the arguments may be told less than they are. -/
theorem callW {nid : Nat} {f : FuncId} {xs : List AV} {K : AV → AState → Prop} (h : ∃ args, argsW s xs args ∧ ∃ r, Ret P f none args [] r ∧ (xs.all okArg || r.plain) = true ∧ K (r.av nid) (s.ret nid r)) : acall q P s nid f xs K := by
  obtain ⟨args, ⟨zs, h1, h2⟩, r, h3, h4, h5⟩ := h
  refine .inl (.inl ⟨zs, r, h1, ?_, Ret.args (snapArgs_lo h1) h2 h3, h5⟩)
  simp only [Bool.or_eq_true] at h4
  exact h4.imp (fun h => (snapArgs_ok (s := s) xs h).2) id
/-- A call; these objects are laid open before. -/
theorem callFz (ls : List Nat) {nid : Nat} {f : FuncId} {xs : List AV} {K : AV → AState → Prop} (h : ∃ p, fzL s xs ls = p ∧ ∃ args, argsW p.1 p.2 args ∧ ∃ r, Ret P f none args [] r ∧ p.2.all okArg = true ∧ K (r.av nid) (p.1.ret nid r)) : acall false P s nid f xs K := by
  obtain ⟨⟨s', ys⟩, hp, args, ⟨zs, h1, h2⟩, r, h3, h4, h5⟩ := h
  refine .inr ⟨rfl, ls, ?_⟩
  rw [hp]
  exact .inl ⟨zs, r, h1, .inl (snapArgs_ok (s := s') ys h4).2, Ret.args (snapArgs_lo h1) h2 h3, h5⟩
/-- A call that may write the variable at its first argument. -/
theorem callIo {nid : Nat} {f : FuncId} {l : Nat} {rest : List AV} {K : AV → AState → Prop} (h : ∃ t cs, s.objs l = some (.box t cs) ∧ ∃ cells0 cells, toCVs cs = some cells0 ∧ CWkL cells0 cells ∧ rest.all okArg = true ∧ ∃ args, argsW s rest args ∧ ∃ out r, Ret P f (some (t, cells)) args out r ∧ K (r.av nid) ((s.setBox l t out).ret nid r)) : acall false P s nid f (.ref l 0 :: rest) K := by
  obtain ⟨t, cs, h1, cells0, cells, h2, h3, h4, args, ⟨zs, h5, h6⟩, out, r, h7, h8⟩ := h
  obtain ⟨g1, g2⟩ := snapArgs_ok (s := s) rest h4
  rw [g1] at h5
  cases h5
  exact .inl (.inr (.inl ⟨rfl, l, t, cs, cells0, rest, out, r, rfl, h1, h2, g2, Ret.args (snapArgs_lo g1) h6 (Ret.cells h3 h7), h8⟩))
theorem OWk.rep {e sz n : Nat} {α : Type} {row : List CV} {z : α} {f : α → List CV} (h : CWkL row (f z)) : OWk (.arr e sz (List.replicate n row)) (.arr e sz ((List.replicate n z).map f)) := by
  refine ⟨fun hx => ?_, fun _ => trivial⟩
  obtain ⟨C, h1, h2, h3, h4, h5⟩ := hx
  refine ⟨C, h1, h2, by simpa using h3, h4, fun i r hr => ?_⟩
  rw [List.map_replicate, List.getElem?_replicate] at hr
  split at hr
  · rename_i hi
    cases hr
    obtain ⟨g1, g2⟩ := h5 i row (by rw [List.getElem?_replicate, if_pos hi])
    refine ⟨h.get.1.trans g1, fun j x v hx hv => ?_⟩
    obtain ⟨y, k1, k2⟩ := h.get.2 j x hx
    exact k2 (g2 j y v k1 hv)
  · cases hr
theorem CWkL.nil : CWkL [] [] := trivial
theorem CWkL.cons {x y : CV} {xs ys : List CV} (h1 : CWk x y) (h2 : CWkL xs ys) : CWkL (x :: xs) (y :: ys) := ⟨h1, h2⟩
/-! ### results -/
def outW (s : AState) (r : RV) : Option AV → Prop
  | some x => ∃ r0, RWk r0 r ∧ outRV s x r0
  | none => False
theorem fpostW_ret (rs : List ResultVar) (r : RV) : fpostW T rs none [] r .ret s = outW s r (aresults T s rs) := by
  unfold fpostW outW
  rw [eq_iff_iff]
  constructor
  · rintro ⟨r0, out0, h1, h2, h3, x, h4, h5, h6⟩
    rw [h4]
    exact ⟨r0, h1, by simpa using h5⟩
  · intro h
    cases hx : aresults T s rs with
    | none => rw [hx] at h; exact h.elim
    | some x =>
      rw [hx] at h
      obtain ⟨r0, h1, h2⟩ := h
      exact ⟨r0, [], h1, trivial, .inr rfl, x, hx, by simpa using h2, trivial⟩
theorem fpostW_normal (rs : List ResultVar) (r : RV) : fpostW T rs none [] r .normal s = outW s r (aresults T s rs) := by
  rw [← fpostW_ret]
  unfold fpostW fpost
  simp
theorem outW_v {x : AV} {y : CV} (h : cellW s 100 x y) : outW s (.c y) (some x) := by
  obtain ⟨z, g1, g2⟩ := h
  exact ⟨.c z, RWk.c g2, g1⟩
theorem outW_own {l z n e : Nat} {rows : List (List CV)} (ho : s.objs l = some (.arr e z rows)) (hn : n = rows.length) : outW s (.own e z rows) (some (.lsl l z 0 n)) := by
  subst hn
  exact ⟨.own e z rows, RWk.refl _, l, rfl, ho⟩
theorem outW_agg {xs : List AV} {ys : List CV} (h : cellsW s 100 xs ys) : outW s (.agg ys) (some (.agg xs)) := by
  obtain ⟨zs, g1, g2⟩ := h
  exact ⟨.agg zs, RWk.agg g2, xs, rfl, g1⟩
/-- Several results; 's1' is the state without what is handed back. -/
inductive TsW (s s1 : AState) : List AV → List T1 → Prop
  | nil : TsW s s1 [] []
  | c {x : AV} {y : CV} {xs : List AV} {ts : List T1} : cellW s1 100 x y → TsW s s1 xs ts → TsW s s1 (x :: xs) (.c y :: ts)
  | agg {cs : List AV} {ys : List CV} {xs : List AV} {ts : List T1} : cellsW s1 100 cs ys → TsW s s1 xs ts → TsW s s1 (.agg cs :: xs) (.agg ys :: ts)
  | own {l z n e : Nat} {rows : List (List CV)} {xs : List AV} {ts : List T1} : s.objs l = some (.arr e z rows) → n = rows.length → TsW s s1 xs ts → TsW s s1 (.lsl l z 0 n :: xs) (.own e z rows :: ts)
theorem TsW.get {s1 : AState} {xs : List AV} {ts : List T1} (h : TsW s s1 xs ts) : ∃ us, T1WkL us ts ∧ outTs s s1 xs us ∧ owns us = owns ts ∧ ownL xs us = ownL xs ts := by
  induction h with
  | nil => exact ⟨[], trivial, trivial, rfl, rfl⟩
  | c h1 _ ih =>
    obtain ⟨us, g1, g2, g3, g4⟩ := ih
    obtain ⟨z, k1, k2⟩ := h1
    exact ⟨.c z :: us, ⟨T1Wk.c k2, g1⟩, ⟨k1, g2⟩, by simp [owns, g3, T1.isOwn], by simp only [ownL, g4]⟩
  | agg h1 _ ih =>
    obtain ⟨us, g1, g2, g3, g4⟩ := ih
    obtain ⟨zs, k1, k2⟩ := h1
    exact ⟨.agg zs :: us, ⟨T1Wk.agg k2, g1⟩, ⟨⟨_, rfl, k1⟩, g2⟩, by simp [owns, g3, T1.isOwn], by simp only [ownL, g4]⟩
  | own h1 h2 _ ih =>
    obtain ⟨us, g1, g2, g3, g4⟩ := ih
    subst h2
    exact ⟨.own _ _ _ :: us, ⟨T1Wk.refl _, g1⟩, ⟨⟨_, rfl, h1⟩, g2⟩, by simp [owns, g3], by simp only [ownL]⟩
theorem outW_tup {xs : List AV} {ts : List T1} (ho : owns ts ≤ 1) (h : TsW s (dropL s (ownL xs ts)) xs ts) : outW s (.tup ts) (some (.tup xs)) := by
  obtain ⟨us, g1, g2, g3, g4⟩ := h.get
  refine ⟨.tup us, RWk.tup g1, xs, rfl, by omega, ?_⟩
  rw [g4]
  exact g2
end
end Go.Proofs.Ytnnpjblpiecfdaa.Fw
