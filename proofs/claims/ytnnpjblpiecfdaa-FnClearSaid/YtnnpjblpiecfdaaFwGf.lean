/- Loops of functions without memory: what they come to. No condition. -/
import Derived.Test.YtnnpjblpiecfdaaFwGe
namespace Go.Proofs.Ytnnpjblpiecfdaa.Fw
open Go.RowKit
set_option linter.unusedVariables false
set_option linter.unusedSimpArgs false
theorem wrap64 {x : Int} (h1 : -9223372036854775808 ≤ x) (h2 : x ≤ 9223372036854775807) : IntKind.wrap .i64 x = x := by
  show (if (true && decide (x % 18446744073709551616 ≥ 9223372036854775808)) = true then x % 18446744073709551616 - 18446744073709551616 else x % 18446744073709551616) = x
  by_cases h : x % 18446744073709551616 ≥ 9223372036854775808
  · rw [if_pos (by simpa using h)]; omega
  · rw [if_neg (by simpa using h)]; omega
section
variable {V R A : Type}
/-- A scan: `for i := k; i < n; i++ { if !p(i) { return r } }`. -/
theorem iter_scan {step : Int → Option (Int ⊕ (V ⊕ R))} {n : Nat} {p : Nat → Bool} {v : V} {r : R}
    (hs : ∀ i : Nat, i < n → step (i : Int) = if p i then some (.inl ((i + 1 : Nat) : Int)) else some (.inr (.inr r))) (he : step (n : Int) = some (.inr (.inl v))) :
    ∀ (m k : Nat), k + m = n → iter step (k : Int) = some (if (List.range' k m).all p then .inl v else .inr r) := by
  intro m
  induction m with
  | zero =>
    intro k hk
    have : k = n := by omega
    subst this
    rw [iter_inr he]
    simp
  | succ m ih =>
    intro k hk
    have h1 := hs k (by omega)
    rw [List.range'_succ, List.all_cons]
    cases hp : p k with
    | true =>
      rw [hp, if_pos rfl] at h1
      rw [iter_inl h1, ih (k + 1) (by omega), Bool.true_and]
    | false =>
      rw [hp] at h1
      rw [iter_inr (by simpa using h1)]
      simp
/-- A fold over places: the state goes from place to place. -/
theorem iter_fold {step : A × Int → Option ((A × Int) ⊕ (V ⊕ R))} {n : Nat} {f : Nat → A → A} {g : A → V} (I : Nat → A → Prop)
    (hs : ∀ (i : Nat) a, i < n → I i a → step (a, (i : Int)) = some (.inl (f i a, ((i + 1 : Nat) : Int))) ∧ I (i + 1) (f i a)) (he : ∀ a, I n a → step (a, (n : Int)) = some (.inr (.inl (g a)))) :
    ∀ (m k : Nat) (a : A), k + m = n → I k a → iter step (a, (k : Int)) = some (.inl (g ((List.range' k m).foldl (fun a i => f i a) a))) := by
  intro m
  induction m with
  | zero =>
    intro k a hk hI
    have : k = n := by omega
    subst this
    rw [iter_inr (he a hI)]
    rfl
  | succ m ih =>
    intro k a hk hI
    obtain ⟨h1, h2⟩ := hs k a (by omega) hI
    rw [iter_inl h1, ih (k + 1) _ (by omega) h2]
    rfl
/-- A run over places with what holds at each. -/
theorem iter_inv {step : A × Int → Option ((A × Int) ⊕ (V ⊕ R))} {n : Nat} {g : A → V} (I : Nat → A → Prop)
    (hs : ∀ (i : Nat) a, i < n → I i a → ∃ a', step (a, (i : Int)) = some (.inl (a', ((i + 1 : Nat) : Int))) ∧ I (i + 1) a') (he : ∀ a, I n a → step (a, (n : Int)) = some (.inr (.inl (g a)))) :
    ∀ (m k : Nat) (a : A), k + m = n → I k a → ∃ a', I n a' ∧ iter step (a, (k : Int)) = some (.inl (g a')) := by
  intro m
  induction m with
  | zero =>
    intro k a hk hI
    have : k = n := by omega
    subst this
    exact ⟨a, hI, iter_inr (he a hI)⟩
  | succ m ih =>
    intro k a hk hI
    obtain ⟨a1, h1, h2⟩ := hs k a (by omega) hI
    obtain ⟨a2, h3, h4⟩ := ih (k + 1) a1 (by omega) h2
    exact ⟨a2, h3, by rw [iter_inl h1, h4]⟩
/-- A run over places that may be left early. -/
theorem iter_exit {step : A × Int → Option ((A × Int) ⊕ (V ⊕ R))} {n : Nat} {g : A → V} (I : Nat → A → Prop) (X : R → Prop)
    (hs : ∀ (i : Nat) a, i < n → I i a → (∃ a', step (a, (i : Int)) = some (.inl (a', ((i + 1 : Nat) : Int))) ∧ I (i + 1) a') ∨ (∃ r, step (a, (i : Int)) = some (.inr (.inr r)) ∧ X r)) (he : ∀ a, I n a → step (a, (n : Int)) = some (.inr (.inl (g a)))) :
    ∀ (m k : Nat) (a : A), k + m = n → I k a → (∃ a', I n a' ∧ iter step (a, (k : Int)) = some (.inl (g a'))) ∨ (∃ r, X r ∧ iter step (a, (k : Int)) = some (.inr r)) := by
  intro m
  induction m with
  | zero =>
    intro k a hk hI
    have : k = n := by omega
    subst this
    exact .inl ⟨a, hI, iter_inr (he a hI)⟩
  | succ m ih =>
    intro k a hk hI
    rcases hs k a (by omega) hI with ⟨a1, h1, h2⟩ | ⟨r, h1, h2⟩
    · rcases ih (k + 1) a1 (by omega) h2 with ⟨a2, h3, h4⟩ | ⟨r, h3, h4⟩
      · exact .inl ⟨a2, h3, by rw [iter_inl h1, h4]⟩
      · exact .inr ⟨r, h3, by rw [iter_inl h1, h4]⟩
    · exact .inr ⟨r, h2, iter_inr h1⟩
/-- A run over places that may be left early; the state as it lies. -/
theorem iter_go {S : Type} {step : S → Option (S ⊕ (V ⊕ R))} {n : Nat} {g : A → V} (st : Nat → A → S) (I : Nat → A → Prop) (X : R → Prop)
    (hs : ∀ (i : Nat) a, i < n → I i a → (∃ a', step (st i a) = some (.inl (st (i + 1) a')) ∧ I (i + 1) a') ∨ (∃ r, step (st i a) = some (.inr (.inr r)) ∧ X r)) (he : ∀ a, I n a → step (st n a) = some (.inr (.inl (g a)))) :
    ∀ (m k : Nat) (a : A), k + m = n → I k a → (∃ a', I n a' ∧ iter step (st k a) = some (.inl (g a'))) ∨ (∃ r, X r ∧ iter step (st k a) = some (.inr r)) := by
  intro m
  induction m with
  | zero =>
    intro k a hk hI
    have : k = n := by omega
    subst this
    exact .inl ⟨a, hI, iter_inr (he a hI)⟩
  | succ m ih =>
    intro k a hk hI
    rcases hs k a (by omega) hI with ⟨a1, h1, h2⟩ | ⟨r, h1, h2⟩
    · rcases ih (k + 1) a1 (by omega) h2 with ⟨a2, h3, h4⟩ | ⟨r, h3, h4⟩
      · exact .inl ⟨a2, h3, by rw [iter_inl h1, h4]⟩
      · exact .inr ⟨r, h3, by rw [iter_inl h1, h4]⟩
    · exact .inr ⟨r, h2, iter_inr h1⟩
end
end Go.Proofs.Ytnnpjblpiecfdaa.Fw
