/- What the printed texts use: rows of plain kinds, states at loops' heads, sizes. No condition. -/
import Derived.Test.YtnnpjblpiecfdaaFwGb
namespace Go.Proofs.Ytnnpjblpiecfdaa.Fw
open Go.RowKit
set_option linter.unusedVariables false
set_option linter.unusedSimpArgs false
abbrev makeOk (l c : Int) (b : Nat) : Prop := 0 ≤ l ∧ l ≤ c ∧ (b : Int) * c ≤ 140737488355328 ∧ c ≤ 9223372036854775807
abbrev appOk (a b n : Nat) : Prop := (a + b) * n ≤ 140737488355328 ∧ a + b ≤ 9223372036854775807
/-! ### steps on what is known -/
section
variable {A R V : Type} {r : R}
theorem s1c {c : Bool} {x y : Option R} (h : (bif c then x else y) = some r) : (c = true ∧ x = some r) ∨ (c = false ∧ y = some r) := by
  cases c
  · exact .inr ⟨rfl, h⟩
  · exact .inl ⟨rfl, h⟩
theorem s1ct {x y : Option R} (h : (bif true then x else y) = some r) : x = some r := h
theorem s1cf {x y : Option R} (h : (bif false then x else y) = some r) : y = some r := h
theorem s1kt {c : Bool} {x y : Option R} (h : (bif c then x else y) = some r) (hc : c = true) : x = some r := by subst hc; exact h
theorem s1kf {c : Bool} {x y : Option R} (h : (bif c then x else y) = some r) (hc : c = false) : y = some r := by subst hc; exact h
theorem s1q {a : R} (h : some a = some r) : a = r := Option.some.inj h
theorem s1no (h : (none : Option R) = some r) : False := by cases h
theorem s1g {p : Prop} [Decidable p] {x : Option R} (h : (if p then x else none) = some r) : p ∧ x = some r := by
  by_cases hp : p
  · rw [if_pos hp] at h; exact ⟨hp, h⟩
  · rw [if_neg hp] at h; cases h
theorem s1d {i : Int} {n : Nat} {x : Option R} (h : (if 0 ≤ i ∧ i < (n : Int) then x else none) = some r) : (0 ≤ i ∧ i < (n : Int)) ∧ i.toNat < n ∧ x = some r := by
  obtain ⟨h1, h2⟩ := s1g h
  exact ⟨h1, by omega, h2⟩
theorem s1u {p : Prop} [Decidable p] {x : Option R} (h : (if p then none else x) = some r) : ¬ p ∧ x = some r := by
  by_cases hp : p
  · rw [if_pos hp] at h; cases h
  · rw [if_neg hp] at h; exact ⟨hp, h⟩
theorem s2i {c : Bool} {x y : Option A} {f : A → Option R} (h : (bif c then x else y).bind f = some r) : (bif c then x.bind f else y.bind f) = some r := by
  cases c <;> exact h
theorem s2g {p : Prop} [Decidable p] {x : Option A} {f : A → Option R} (h : (if p then x else none).bind f = some r) : (if p then x.bind f else none) = some r := by
  split at h <;> simp_all
theorem s2u {p : Prop} [Decidable p] {x : Option A} {f : A → Option R} (h : (if p then none else x).bind f = some r) : (if p then none else x.bind f) = some r := by
  split at h <;> simp_all
theorem s3i {c : Bool} {x y : Option (V ⊕ R)} {f : V → Option R} (h : jn (bif c then x else y) f = some r) : (bif c then jn x f else jn y f) = some r := by
  cases c <;> exact h
theorem s3g {p : Prop} [Decidable p] {x : Option (V ⊕ R)} {f : V → Option R} (h : jn (if p then x else none) f = some r) : (if p then jn x f else none) = some r := by
  split at h
  · rwa [if_pos ‹_›]
  · cases h
theorem s3u {p : Prop} [Decidable p] {x : Option (V ⊕ R)} {f : V → Option R} (h : jn (if p then none else x) f = some r) : (if p then none else jn x f) = some r := by
  split at h
  · cases h
  · rwa [if_neg ‹_›]
end
/-! ### at a loop's head -/
def agC (i : Nat) : AV → AV
  | .agg cs => cs.getD i .junk
  | _ => .junk
def famS {S : Type} (F : List AV → (Nat → Option AObj) → S → List (Nat × AV)) (O : List AV → (Nat → Option AObj) → S → List (Nat × Option AObj)) (t : List AV) (ob : Nat → Option AObj) (n : Nat) (σ : S) : AState := ⟨setL (F t ob σ) t, objsM (O t ob σ), n⟩
/-- What the end of a round must show. -/
def Back {S R : Type} (step : S → Option (S ⊕ R)) (F : List AV → (Nat → Option AObj) → S → List (Nat × AV)) (O : List AV → (Nat → Option AObj) → S → List (Nat × Option AObj)) (t : List AV) (ob : Nat → Option AObj) (n : Nat) (r : R) (m : Nat) (K : AState → Prop) : Prop :=
  ∀ s' k σ', runN step k σ' = some r → k < m + 1 → Wk s' (fam F O t ob n σ') → K s'
section
variable {P : Program} {T : Tab} {E : Entry}
theorem vc_of_steps (hT : Tab.ok P T = true) {c : Code} {Q : APost} {S R : Type} {step : S → Option (S ⊕ R)} {s0 : S} {r : R} {t : List AV} {ob : Nat → Option AObj} {n : Nat} (F : List AV → (Nat → Option AObj) → S → List (Nat × AV)) (O : List AV → (Nat → Option AObj) → S → List (Nat × Option AObj))
    (h : iter step s0 = some r) (h0 : Wk ⟨t, ob, n⟩ (famS F O t ob n s0))
    (round : ∀ m σ x K, Back step F O t ob n r m K → step σ = some x → iterK step m r x → vc P T E c (athen K Q) (famS F O t ob n σ)) : vc P T E (.loop c) Q ⟨t, ob, n⟩ :=
  vc_of_iter hT F O h h0 fun m σ x hs hx => round m σ x _ (fun s' k σ' h1 h2 h3 => ⟨k, σ', h1, h2, h3⟩) hs hx
theorem Back.use {S R : Type} {step : S → Option (S ⊕ R)} {F : List AV → (Nat → Option AObj) → S → List (Nat × AV)} {O : List AV → (Nat → Option AObj) → S → List (Nat × Option AObj)} {t t' : List AV} {ob ob' : Nat → Option AObj} {n n' : Nat} {r : R} {m : Nat} {K : AState → Prop} (hB : Back step F O t ob n r m K)
    {σ' : S} (h1 : runN step m σ' = some r) (ps : List (Nat × List Nat)) (hL : ∃ L, mkL t' ob' t ob ps = L ∧ okRen L = true ∧ Wk (AState.ren ⟨t', ob', n'⟩ L) (famS F O t ob n σ')) : K ⟨t', ob', n'⟩ := by
  obtain ⟨L, _, hok, h⟩ := hL
  exact hB _ _ σ' h1 (Nat.lt_succ_self m) (Wk.auto L hok h)
end
/-! ### rows of plain kinds -/
def rI (x : Int) : List CV := [.v (.int .i64 x)]
def rB (b : Bool) : List CV := [.v (.bool b)]
def rS (b : ByteArray) : List CV := [.v (.string b)]
/-- Rows of a kind; simp leaves it as it is. -/
def mapR {α : Type} (f : α → List CV) (xs : List α) : List (List CV) := xs.map f
theorem mapR_append {α : Type} (f : α → List CV) (xs ys : List α) : mapR f xs ++ mapR f ys = mapR f (xs ++ ys) := (List.map_append ..).symm
theorem mapR_take {α : Type} (f : α → List CV) (xs : List α) (n : Nat) : (mapR f xs).take n = mapR f (xs.take n) := (List.map_take ..).symm
theorem mapR_drop {α : Type} (f : α → List CV) (xs : List α) (n : Nat) : (mapR f xs).drop n = mapR f (xs.drop n) := (List.map_drop ..).symm
theorem mapR_getD {α : Type} [Inhabited α] (f : α → List CV) (xs : List α) (n : Nat) (h : n < xs.length) : (mapR f xs).getD n [] = f (xs.getD n default) := by simp [mapR, h]
theorem mapR_get {α : Type} [Inhabited α] (f : α → List CV) (xs : List α) (n : Nat) (h : n < xs.length) : (mapR f xs)[n]? = some (f (xs.getD n default)) := by simp [mapR, h]
theorem mapR_len {α : Type} (f : α → List CV) (xs : List α) : (mapR f xs).length = xs.length := List.length_map ..
theorem mapR_eq {α : Type} (f : α → List CV) (xs : List α) : xs.map f = mapR f xs := _root_.id rfl
theorem OWk.repR {e sz n : Nat} {α : Type} {row : List CV} {z : α} {f : α → List CV} (h : CWkL row (f z)) : OWk (.arr e sz (List.replicate n row)) (.arr e sz (mapR f (List.replicate n z))) := OWk.rep h
theorem objsM_nil (k : Nat) : objsM [] k = none := _root_.id rfl
theorem objsM_cons (l k : Nat) (o : Option AObj) (r : List (Nat × Option AObj)) : objsM ((l, o) :: r) k = if k = l then o else objsM r k := _root_.id rfl
attribute [push_cast] decide_not mapR_append mapR_take mapR_drop mapR_getD mapR_get mapR_len fpostW_ret fpostW_normal objsM_nil objsM_cons nm nmC nmO nmAt agC
end Go.Proofs.Ytnnpjblpiecfdaa.Fw
