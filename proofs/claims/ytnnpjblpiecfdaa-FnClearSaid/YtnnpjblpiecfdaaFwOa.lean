/- Values and results that tell less. No condition. -/
import Derived.Test.YtnnpjblpiecfdaaFwO
namespace Go.Proofs.Ytnnpjblpiecfdaa.Fw
open Go.RowKit
set_option linter.unusedVariables false
set_option linter.unusedSimpArgs false

def CWk (x y : CV) : Prop := ∀ {w : World} {F : Nat → Prop} {v : Value}, CRep w F v x → CRep w F v y
theorem CWk.refl (x : CV) : CWk x x := fun h => h
theorem CWk.sl {nl full : Bool} {z : Nat} {rows : List (List CV)} : CWk (.sl nl full z rows) (.sl true false z rows) := fun h => by
  cases h with
  | nil => exact .nil
  | sl f h0 h1 h2 h3 h4 => exact .sl f h0 h1 (by simp) h3 h4
theorem CWk.slE {nl full : Bool} {z z' : Nat} : CWk (.sl nl full z []) (.sl true false z' []) := fun h => by
  cases h with
  | nil => exact .nil
  | sl f h0 h1 h2 h3 h4 => exact .sl f h0 h1 (by simp) (fun i row hr => by simp at hr) (fun i row hr => by simp at hr)
def CWkL : List CV → List CV → Prop
  | [], [] => True
  | x :: xs, y :: ys => CWk x y ∧ CWkL xs ys
  | _, _ => False
theorem CWkL.get : ∀ {xs ys : List CV}, CWkL xs ys → ys.length = xs.length ∧ ∀ (i : Nat) y, ys[i]? = some y → ∃ x, xs[i]? = some x ∧ CWk x y
  | [], [], _ => ⟨rfl, fun i y h => by simp at h⟩
  | x :: xs, y :: ys, h => by
    obtain ⟨g1, g2⟩ := CWkL.get h.2
    refine ⟨by simp [g1], fun i z hz => ?_⟩
    cases i with
    | zero =>
      simp only [List.getElem?_cons_zero, Option.some.injEq] at hz
      subst hz
      exact ⟨x, rfl, h.1⟩
    | succ i => exact g2 i z (by simpa using hz)
  | [], _ :: _, h => h.elim
  | _ :: _, [], h => h.elim
theorem CWk.rp {xs ys : List CV} (h : CWkL xs ys) : CWk (.rp xs) (.rp ys) := fun hx => by
  obtain ⟨g1, g2⟩ := h.get
  cases hx with
  | rp f h1 h2 =>
    refine .rp f (fun j y hy => ?_) (fun j y hy => ?_)
    · obtain ⟨x, hx, _⟩ := g2 j y hy
      exact h1 j x hx
    · obtain ⟨x, hx, hc⟩ := g2 j y hy
      exact hc (h2 j x hx)
theorem CWkL.refl : ∀ (xs : List CV), CWkL xs xs
  | [] => trivial
  | x :: xs => ⟨CWk.refl x, CWkL.refl xs⟩
theorem CWkL.creps {w : World} {F : Nat → Prop} {C : Array Value} {xs ys : List CV} (h : CWkL xs ys) (hx : CReps w F C xs) : CReps w F C ys := by
  refine ⟨hx.1.trans h.get.1.symm, fun i y v hy hv => ?_⟩
  obtain ⟨x, g1, g2⟩ := h.get.2 i y hy
  exact g2 (hx.2 i x v g1 hv)
structure T1Wk (x y : T1) : Prop where
  rep : ∀ {w : World} {F : Nat → Prop} {base : Nat} {v : Value}, T1Rep w F base v x → T1Rep w F base v y
  own : y.isOwn = x.isOwn
theorem T1Wk.refl (x : T1) : T1Wk x x := ⟨fun h => h, rfl⟩
theorem T1Wk.c {x y : CV} (h : CWk x y) : T1Wk (.c x) (.c y) := ⟨fun hx => h hx, rfl⟩
theorem T1Wk.agg {xs ys : List CV} (h : CWkL xs ys) : T1Wk (.agg xs) (.agg ys) := ⟨fun ⟨C, h1, h2⟩ => ⟨C, h1, h.creps h2⟩, rfl⟩
def T1WkL : List T1 → List T1 → Prop
  | [], [] => True
  | x :: xs, y :: ys => T1Wk x y ∧ T1WkL xs ys
  | _, _ => False
theorem T1WkL.get : ∀ {xs ys : List T1}, T1WkL xs ys → ys.length = xs.length ∧ owns ys = owns xs ∧ ∀ (i : Nat) y, ys[i]? = some y → ∃ x, xs[i]? = some x ∧ T1Wk x y
  | [], [], _ => ⟨rfl, rfl, fun i y h => by simp at h⟩
  | x :: xs, y :: ys, h => by
    obtain ⟨g1, g3, g2⟩ := T1WkL.get h.2
    refine ⟨by simp [g1], by simp only [owns, g3, h.1.own], fun i z hz => ?_⟩
    cases i with
    | zero =>
      simp only [List.getElem?_cons_zero, Option.some.injEq] at hz
      subst hz
      exact ⟨x, rfl, h.1⟩
    | succ i => exact g2 i z (by simpa using hz)
  | [], _ :: _, h => h.elim
  | _ :: _, [], h => h.elim
def RWk (x y : RV) : Prop := ∀ {w : World} {F : Nat → Prop} {base : Nat} {v : Value}, RRep w F base v x → RRep w F base v y
theorem RWk.refl (x : RV) : RWk x x := fun h => h
theorem RWk.c {x y : CV} (h : CWk x y) : RWk (.c x) (.c y) := fun hx => h hx
theorem RWk.agg {xs ys : List CV} (h : CWkL xs ys) : RWk (.agg xs) (.agg ys) := fun ⟨C, h1, h2⟩ => ⟨C, h1, h.creps h2⟩
theorem RWk.tup {xs ys : List T1} (h : T1WkL xs ys) : RWk (.tup xs) (.tup ys) := fun ⟨C, h1, h2, h3, h4⟩ => by
  obtain ⟨g1, g2, g3⟩ := h.get
  refine ⟨C, h1, h2.trans g1.symm, by omega, fun i y v hy hv => ?_⟩
  obtain ⟨x, k1, k2⟩ := g3 i y hy
  exact k2.rep (h4 i x v k1 hv)
theorem PostC.weak {w w' : World} {S F' : Nat → Prop} {io : Option (TypeId × List CV)} {p : Nat} {out0 out : List CV} {r0 r : RV} {v : Value} (hr : RWk r0 r) (ho : CWkL out0 out) (h : PostC w S io p out0 r0 v w' F') : PostC w S io p out r v w' F' :=
  have h2 : IoOut w' F' p out io := by
    have h1 := h.out
    cases io with
    | none => trivial
    | some tc =>
      obtain ⟨t, cs⟩ := tc
      obtain ⟨C, g1, g2⟩ := h1
      exact ⟨C, g1, ho.creps g2⟩
  { h with res := hr h.res, out := h2 }
end Go.Proofs.Ytnnpjblpiecfdaa.Fw
