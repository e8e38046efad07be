/- What the functions without memory come to. No condition. -/
import Derived.Test.YtnnpjblpiecfdaaGCmb
import Derived.Test.YtnnpjblpiecfdaaFwGf
import Derived.Test.YtnnpjblpiecfdaaFwZb
namespace Go.Proofs.Ytnnpjblpiecfdaa.Fw
open Go.RowKit
set_option linter.unusedVariables false
set_option linter.unusedSimpArgs false
theorem all_getD {a b : List Int} (hl : a.length = b.length) : ((List.range' 0 a.length).all fun i => decide (a.getD i default = b.getD i default)) = decide (a = b) := by
  rw [Bool.eq_iff_iff, List.all_eq_true, decide_eq_true_eq]
  constructor
  · intro h
    refine List.ext_getElem hl fun i h1 h2 => ?_
    have := h i (by simp [List.mem_range'_1]; exact h1)
    simpa [List.getD_eq_getElem?_getD, h1, h2] using this
  · rintro rfl i _
    simp
end Go.Proofs.Ytnnpjblpiecfdaa.Fw
namespace Go.Proofs.Ytnnpjblpiecfdaa.Fw
open Go.RowKit
set_option linter.unusedVariables false
set_option linter.unusedSimpArgs false
def inR (n lo hi : Int) : Bool := decide (lo ≤ n) && decide (n ≤ hi)
theorem p_within (n lo hi : Int) : G.i_within n lo hi = some (inR n lo hi) := by
  unfold G.i_within inR; cases decide (lo ≤ n) <;> rfl
theorem all_getDL {α : Type} [Inhabited α] [DecidableEq α] {a b : List α} (hl : a.length = b.length) : ((List.range' 0 a.length).all fun i => decide (a.getD i default = b.getD i default)) = decide (a = b) := by
  rw [Bool.eq_iff_iff, List.all_eq_true, decide_eq_true_eq]
  constructor
  · intro h
    refine List.ext_getElem hl fun i h1 h2 => ?_
    have := h i (by simp [List.mem_range'_1]; exact h1)
    simpa [List.getD_eq_getElem?_getD, h1, h2] using this
  · rintro rfl i _
    simp
theorem makeOk_of {n : Nat} {b : Nat} (h : n ≤ 1048576) (hb : b ≤ 1000) : makeOk (n : Int) (n : Int) b := by
  unfold makeOk
  have h1 : n * b ≤ 1048576 * 1000 := Nat.mul_le_mul h hb
  have h2 : (b : Int) * (n : Int) = ((n * b : Nat) : Int) := by rw [Int.natCast_mul, Int.mul_comm]
  refine ⟨?_, ?_, ?_, ?_⟩ <;> omega
end Go.Proofs.Ytnnpjblpiecfdaa.Fw
namespace Go.Proofs.Ytnnpjblpiecfdaa.Fw
open Go.RowKit
set_option linter.unusedVariables false
set_option linter.unusedSimpArgs false
/-- The sum over neighbours. -/
def pairSum (f : Int → Int → Int) : List Int → Int
  | [] => 0
  | [_] => 0
  | a :: b :: l => f a b + pairSum f (b :: l)
/-- Without neighbours that are alike. -/
def dd : List Int → List Int
  | [] => []
  | [a] => [a]
  | a :: b :: l => if a = b then dd (b :: l) else a :: dd (b :: l)
theorem dd_head (a : Int) (l : List Int) : ∃ t, dd (a :: l) = a :: t := by
  induction l generalizing a with
  | nil => exact ⟨[], rfl⟩
  | cons b l ih =>
    by_cases h : a = b
    · subst h
      obtain ⟨t, ht⟩ := ih a
      exact ⟨t, by rw [dd, if_pos rfl, ht]⟩
    · exact ⟨dd (b :: l), by rw [dd, if_neg h]⟩
theorem pairSum_dd (f : Int → Int → Int) (h : ∀ a, f a a = 0) (l : List Int) : pairSum f (dd l) = pairSum f l := by
  match l with
  | [] => rfl
  | [a] => rfl
  | a :: b :: l =>
    have ih := pairSum_dd f h (b :: l)
    by_cases e : a = b
    · subst e
      rw [dd, if_pos rfl, ih, pairSum, h, Int.zero_add]
    · obtain ⟨t, ht⟩ := dd_head b l
      rw [dd, if_neg e, ht, pairSum, ← ht, ih, pairSum]
termination_by l.length
theorem mem_dd (x : Int) (l : List Int) : x ∈ dd l ↔ x ∈ l := by
  match l with
  | [] => rfl
  | [a] => rfl
  | a :: b :: l =>
    have ih := mem_dd x (b :: l)
    by_cases e : a = b
    · subst e
      rw [dd, if_pos rfl, ih]
      simp
    · rw [dd, if_neg e, List.mem_cons, ih]
      simp
termination_by l.length
theorem dd_lt (l : List Int) (h : l.Pairwise (· ≤ ·)) : (dd l).Pairwise (· < ·) := by
  match l with
  | [] => exact .nil
  | [a] => simp [dd]
  | a :: b :: l =>
    have h2 := List.pairwise_cons.1 h
    have ih := dd_lt (b :: l) h2.2
    by_cases e : a = b
    · subst e
      rw [dd, if_pos rfl]; exact ih
    · rw [dd, if_neg e]
      refine List.pairwise_cons.2 ⟨fun x hx => ?_, ih⟩
      rw [mem_dd] at hx
      have h3 := h2.1 b (List.mem_cons_self ..)
      have h4 := (List.pairwise_cons.1 h2.2).1
      rcases List.mem_cons.1 hx with rfl | hx
      · omega
      · have := h4 x hx; omega
termination_by l.length
/-- Two rising lists with the same members are the same. -/
theorem rising_eq : ∀ (a b : List Int), a.Pairwise (· < ·) → b.Pairwise (· < ·) → (∀ x, x ∈ a ↔ x ∈ b) → a = b
  | [], [], _, _, _ => rfl
  | [], y :: b, _, _, h => by have := (h y).2 (List.mem_cons_self ..); simp at this
  | x :: a, [], _, _, h => by have := (h x).1 (List.mem_cons_self ..); simp at this
  | x :: a, y :: b, ha, hb, h => by
    have h1 := List.pairwise_cons.1 ha
    have h2 := List.pairwise_cons.1 hb
    have e : x = y := by
      have p := (h x).1 (List.mem_cons_self ..)
      have q := (h y).2 (List.mem_cons_self ..)
      rcases List.mem_cons.1 p with p | p
      · exact p
      · rcases List.mem_cons.1 q with q | q
        · exact q.symm
        · have := h1.1 y q; have := h2.1 x p; omega
    subst e
    have : a = b := rising_eq a b h1.2 h2.2 fun z => by
      have hz := h z
      rw [List.mem_cons, List.mem_cons] at hz
      constructor
      · intro m
        rcases hz.1 (.inr m) with rfl | m'
        · exact absurd (h1.1 z m) (by omega)
        · exact m'
      · intro m
        rcases hz.2 (.inr m) with rfl | m'
        · exact absurd (h2.1 z m) (by omega)
        · exact m'
    rw [this]
theorem pairSum_le (f : Int → Int → Int) (B : Int) (l : List Int) (h : ∀ a ∈ l, ∀ b ∈ l, a ≤ b → 0 ≤ f a b ∧ f a b ≤ B) (hp : l.Pairwise (· ≤ ·)) : 0 ≤ pairSum f l ∧ pairSum f l ≤ (l.length : Int) * B ∧ (l ≠ [] → 0 ≤ (l.length : Int)) := by
  match l with
  | [] => exact ⟨by simp [pairSum], by simp [pairSum], fun _ => by simp⟩
  | [a] => 
    have := h a (List.mem_cons_self ..) a (List.mem_cons_self ..) (Int.le_refl _)
    exact ⟨by simp [pairSum], by simp [pairSum]; omega, fun _ => by simp⟩
  | a :: b :: l =>
    have hp2 := List.pairwise_cons.1 hp
    have ih := pairSum_le f B (b :: l) (fun x hx y hy => h x (List.mem_cons_of_mem _ hx) y (List.mem_cons_of_mem _ hy)) hp2.2
    have h1 := h a (List.mem_cons_self ..) b (List.mem_cons_of_mem _ (List.mem_cons_self ..)) (hp2.1 b (List.mem_cons_self ..))
    refine ⟨by rw [pairSum]; omega, ?_, fun _ => by omega⟩
    rw [pairSum, List.length_cons]
    have : ((((b :: l).length + 1 : Nat) : Int)) * B = ((b :: l).length : Int) * B + B := by
      rw [Int.natCast_add, Int.add_mul]; simp
    omega
termination_by l.length
/-- A loop over neighbours. -/
theorem iter_pairs {R : Type} {step : Int × Int → Option ((Int × Int) ⊕ (Int ⊕ R))} (l : List Int) (f : Int → Int → Int) (B base : Int) (h0 : 1 ≤ l.length) (hlen : l.length ≤ 1000)
    (hf : ∀ a ∈ l, ∀ b ∈ l, a ≤ b → 0 ≤ f a b ∧ f a b ≤ B) (hp : l.Pairwise (· ≤ ·))
    (hs : ∀ (i : Nat) (sum : Int), i + 1 < l.length → base ≤ sum → sum ≤ base + 1000 * B → step (sum, ((i + 1 : Nat) : Int)) = some (.inl (sum + f (l.getD i default) (l.getD (i + 1) default), ((i + 1 + 1 : Nat) : Int))))
    (he : ∀ sum : Int, step (sum, (l.length : Int)) = some (.inr (.inl sum))) :
    iter step (base, (1 : Int)) = some (.inl (base + pairSum f l)) := by
  have key : ∀ (m : Nat) (i : Nat) (sum : Int), i + 1 + m = l.length → base ≤ sum → sum ≤ base + (i : Int) * B → iter step (sum, ((i + 1 : Nat) : Int)) = some (.inl (sum + pairSum f (l.drop i))) := by
    intro m
    induction m with
    | zero =>
      intro i sum hi h1 h2
      have hl : i < l.length := by omega
      have : l.drop i = [l[i]] := by
        rw [← List.getElem_cons_drop hl, List.drop_eq_nil_of_le (by omega)]
      rw [this, show i + 1 = l.length by omega, iter_inr (r := .inl sum) (he sum)]
      simp [pairSum]
    | succ m ih =>
      intro i sum hi h1 h2
      have hl : i < l.length := by omega
      have hl2 : i + 1 < l.length := by omega
      have hd : l.drop i = l[i] :: l[i + 1] :: l.drop (i + 2) := by
        rw [← List.getElem_cons_drop hl, ← List.getElem_cons_drop hl2]
      have hd2 : l.drop (i + 1) = l[i + 1] :: l.drop (i + 2) := by rw [← List.getElem_cons_drop hl2]
      have hle : l[i] ≤ l[i + 1] := List.pairwise_iff_getElem.1 hp i (i + 1) hl hl2 (by omega)
      obtain ⟨b1, b2⟩ := hf l[i] (List.getElem_mem hl) l[i + 1] (List.getElem_mem hl2) hle
      have g1 : l.getD i default = l[i] := by rw [List.getD_eq_getElem?_getD, List.getElem?_eq_getElem hl, Option.getD_some]
      have g2 : l.getD (i + 1) default = l[i + 1] := by rw [List.getD_eq_getElem?_getD, List.getElem?_eq_getElem hl2, Option.getD_some]
      have hB : 0 ≤ B := by omega
      have hiB : (i : Int) * B ≤ 1000 * B := Int.mul_le_mul_of_nonneg_right (by omega) hB
      have hst := hs i sum (by omega) h1 (by omega)
      rw [g1, g2] at hst
      have e1 : ((i + 1 : Nat) : Int) * B = (i : Int) * B + B := by rw [Int.natCast_add, Int.add_mul]; simp
      rw [iter_inl hst, ih (i + 1) _ (by omega) (by omega) (by rw [e1]; omega), hd, hd2, pairSum]
      congr 2
      omega
  have := key (l.length - 1) 0 base (by omega) (Int.le_refl _) (by simp)
  simpa using this
/-- A number laid into a rising list. -/
def ins (n : Int) : List Int → List Int
  | [] => [n]
  | a :: l => if n ≤ a then (if n < a then n :: a :: l else a :: l) else a :: ins n l
theorem mem_ins (n x : Int) (l : List Int) : x ∈ ins n l ↔ x = n ∨ x ∈ l := by
  induction l with
  | nil => simp [ins]
  | cons a l ih =>
    unfold ins
    split
    · split
      · simp
      · have : n = a := by omega
        subst this
        simp
    · rw [List.mem_cons, ih, List.mem_cons]
      constructor
      · rintro (h | h | h) <;> simp [h]
      · rintro (h | h | h) <;> simp [h]
theorem ins_lt (n : Int) (l : List Int) (h : l.Pairwise (· < ·)) : (ins n l).Pairwise (· < ·) := by
  induction l with
  | nil => simp [ins]
  | cons a l ih =>
    have h1 := List.pairwise_cons.1 h
    unfold ins
    split
    · split
      · refine List.pairwise_cons.2 ⟨fun x hx => ?_, h⟩
        rcases List.mem_cons.1 hx with rfl | hx
        · assumption
        · have := h1.1 x hx; omega
      · exact h
    · refine List.pairwise_cons.2 ⟨fun x hx => ?_, ih h1.2⟩
      rw [mem_ins] at hx
      rcases hx with rfl | hx
      · omega
      · exact h1.1 x hx
theorem ins_len (n : Int) (l : List Int) : (ins n l).length ≤ l.length + 1 := by
  induction l with
  | nil => simp [ins]
  | cons a l ih =>
    unfold ins
    split
    · split <;> simp
    · simp only [List.length_cons]; omega
theorem lt_le {l : List Int} (h : l.Pairwise (· < ·)) : l.Pairwise (· ≤ ·) := h.imp (fun h => Int.le_of_lt h)
end Go.Proofs.Ytnnpjblpiecfdaa.Fw
namespace Go.Proofs.Ytnnpjblpiecfdaa.Fw
open Go.RowKit
set_option linter.unusedVariables false
set_option linter.unusedSimpArgs false
end Go.Proofs.Ytnnpjblpiecfdaa.Fw
namespace Go.Proofs.Ytnnpjblpiecfdaa.Fw
open Go.RowKit
set_option linter.unusedVariables false
set_option linter.unusedSimpArgs false
def chOk (c : Int) : Bool := inR c 97 122 || inR c 48 57
def nameOk (s : ByteArray) : Bool := !(decide (s.size = 0) || decide ((10 : Int) < ((s.size : Nat) : Int))) && (inR (byteAt s 0) 97 122 && (List.range' 0 s.size).all fun i => chOk (byteAt s i))
theorem lt_not (a b : Int) : decide (a < b) = !decide (b ≤ a) := by
  by_cases h : a < b
  · simp [h, Int.not_le.2 h]
  · simp [h, Int.not_lt.1 h]
theorem p_IsName (s : ByteArray) (hs : s.size ≤ 9223372036854775807) : G.i_IsName s = some (nameOk s) := by
  have hit : iter (G.i_IsName.s0 s) 0 = some (if (List.range' 0 s.size).all (fun i => chOk (byteAt s i)) then .inl () else .inr false) := by
    refine iter_scan (step := G.i_IsName.s0 s) (n := s.size) (p := fun i => chOk (byteAt s i)) (v := ()) (r := false) ?_ ?_ s.size 0 (by omega)
    · intro i hi
      have h1 : decide ((i : Int) < ((s.size : Nat) : Int)) = true := by simp; omega
      have hc : 0 ≤ (i : Int) ∧ (i : Int) < ((s.size : Nat) : Int) := ⟨by omega, by omega⟩
      simp only [G.i_IsName.s0, h1, cond_true, if_pos hc, Int.toNat_natCast, Option.bind_some, chOk, inR]
      rw [wrap64 (by omega) (by omega), lt_not (byteAt s i) 97, lt_not 122 (byteAt s i), lt_not (byteAt s i) 48, lt_not 57 (byteAt s i)]
      by_cases h5 : 97 ≤ byteAt s i <;> by_cases h6 : byteAt s i ≤ 122 <;> by_cases h7 : 48 ≤ byteAt s i <;> by_cases h8 : byteAt s i ≤ 57 <;> simp [h5, h6, h7, h8]
    · have h1 : decide (((s.size : Nat) : Int) < ((s.size : Nat) : Int)) = false := by simp
      simp only [G.i_IsName.s0, h1, cond_false]
  unfold G.i_IsName nameOk
  rw [hit]
  by_cases c0 : s.size = 0
  · simp [c0]
  · by_cases c1 : (10 : Int) < ((s.size : Nat) : Int)
    · have c2 : ¬ ((s.size : Nat) : Int) < 1 := by omega
      simp [c0, c1, c2]
    · have hc : 0 ≤ (0 : Int) ∧ (0 : Int) < ((s.size : Nat) : Int) := ⟨by omega, by omega⟩
      have c2 : ¬ ((s.size : Nat) : Int) < 1 := by omega
      simp only [c0, c1, c2, decide_false, cond_false, Option.bind_some, if_pos hc, Bool.or_self, Bool.not_false, Bool.true_and, inR, lt_not (byteAt s 0) 97, lt_not 122 (byteAt s 0)]
      cases decide (97 ≤ byteAt s 0) <;> cases decide (byteAt s 0 ≤ 122) <;> cases (List.range' 0 s.size).all fun i => chOk (byteAt s i) <;> rfl
end Go.Proofs.Ytnnpjblpiecfdaa.Fw
namespace Go.Proofs.Ytnnpjblpiecfdaa.Fw
open Go.RowKit
set_option linter.unusedVariables false
set_option linter.unusedSimpArgs false
def names : List ByteArray := [(⟨#[97, 115, 104]⟩ : ByteArray), (⟨#[98, 101, 101, 99, 104]⟩ : ByteArray), (⟨#[98, 105, 114, 99, 104]⟩ : ByteArray), (⟨#[99, 104, 101, 114, 114, 121]⟩ : ByteArray), (⟨#[101, 98, 111, 110, 121]⟩ : ByteArray), (⟨#[104, 111, 108, 108, 121]⟩ : ByteArray), (⟨#[109, 97, 112, 108, 101]⟩ : ByteArray), (⟨#[111, 97, 107]⟩ : ByteArray), (⟨#[114, 111, 115, 101, 119, 111, 111, 100]⟩ : ByteArray), (⟨#[119, 97, 108, 110, 117, 116]⟩ : ByteArray)]
/-- The place of a name. -/
def findN (n : ByteArray) : Nat → Nat → Int
  | 0, _ => -1
  | m + 1, k => if names.getD k default = n then (k : Int) else findN n m (k + 1)
end Go.Proofs.Ytnnpjblpiecfdaa.Fw
namespace Go.Proofs.Ytnnpjblpiecfdaa.Fw
open Go.RowKit
set_option linter.unusedVariables false
set_option linter.unusedSimpArgs false
end Go.Proofs.Ytnnpjblpiecfdaa.Fw
namespace Go.Proofs.Ytnnpjblpiecfdaa.Fw
open Go.RowKit
set_option linter.unusedVariables false
set_option linter.unusedSimpArgs false
end Go.Proofs.Ytnnpjblpiecfdaa.Fw
namespace Go.Proofs.Ytnnpjblpiecfdaa.Fw
open Go.RowKit
set_option linter.unusedVariables false
set_option linter.unusedSimpArgs false
/-- What is told of a species: its shade and whether it is one. -/
theorem species (n : ByteArray) : (∃ k : Nat, k < 10 ∧ n = names.getD k default ∧ findN n 10 0 = (k : Int)) ∨ (findN n 10 0 = -1 ∧ ∀ k : Nat, k < 10 → n ≠ names.getD k default) := by
  have main : ∀ m k, k + m = 10 → (∃ j : Nat, k ≤ j ∧ j < 10 ∧ n = names.getD j default ∧ findN n m k = (j : Int)) ∨ (findN n m k = -1 ∧ ∀ j : Nat, k ≤ j → j < 10 → n ≠ names.getD j default) := by
    intro m
    induction m with
    | zero => intro k hk; exact .inr ⟨rfl, fun j h1 h2 => by omega⟩
    | succ m ih =>
      intro k hk
      by_cases h : names.getD k default = n
      · exact .inl ⟨k, Nat.le_refl _, by omega, h.symm, by simp only [findN, if_pos h]⟩
      · rcases ih (k + 1) (by omega) with ⟨j, h1, h2, h3, h4⟩ | ⟨h1, h2⟩
        · exact .inl ⟨j, by omega, h2, h3, by simp only [findN, if_neg h]; exact h4⟩
        · refine .inr ⟨by simp only [findN, if_neg h]; exact h1, fun j h3 h4 => ?_⟩
          by_cases e : j = k
          · subst e; exact fun hc => h hc.symm
          · exact h2 j (by omega) h4
  rcases main 10 0 rfl with ⟨j, _, h2, h3, h4⟩ | ⟨h1, h2⟩
  · exact .inl ⟨j, h2, h3, h4⟩
  · exact .inr ⟨h1, fun k hk => h2 k (Nat.zero_le _) hk⟩
def veneerB (c sh gr : Int) : Bool := inR sh 0 100 && inR sh (c - 15) (c + 15) && inR gr 0 179
theorem v_impl (n : ByteArray) (sh gr c x y : Int) (hsh : -9223372036854775808 ≤ sh ∧ sh ≤ 9223372036854775807) (hc : 0 ≤ c ∧ c ≤ 100) (h : G.i_SpeciesData n = some (c, x, y, 0)) : G.i_ValidVeneer n sh gr = some (veneerB c sh gr) := by
  have hi : -1000000 ≤ sh ∧ sh ≤ 1000000 → inR (IntKind.wrap .i64 (sh - c)) (-15) 15 = inR sh (c - 15) (c + 15) := fun h => by
    rw [wrap64 (by omega) (by omega)]
    unfold inR
    rw [Bool.eq_iff_iff]
    simp only [Bool.and_eq_true, decide_eq_true_eq]
    omega
  simp only [G.i_ValidVeneer, G.i_speciesShade, h, Option.bind_some, decide_true, cond_true, p_within, veneerB]
  rcases Bool.eq_false_or_eq_true (inR sh 0 100) with h0 | h0
  · rw [h0, hi (by simp only [inR, Bool.and_eq_true, decide_eq_true_eq] at h0; omega)]
    cases inR sh (c - 15) (c + 15) <;> cases inR gr 0 179 <;> rfl
  · rw [h0]
    rfl
end Go.Proofs.Ytnnpjblpiecfdaa.Fw
namespace Go.Proofs.Ytnnpjblpiecfdaa.Fw
open Go.RowKit
set_option linter.unusedVariables false
set_option linter.unusedSimpArgs false
end Go.Proofs.Ytnnpjblpiecfdaa.Fw
namespace Go.Proofs.Ytnnpjblpiecfdaa.Fw
open Go.RowKit
set_option linter.unusedVariables false
set_option linter.unusedSimpArgs false
theorem getD_mem {α : Type} [Inhabited α] {l : List α} {i : Nat} (h : i < l.length) : l.getD i default ∈ l := by
  rw [List.getD_eq_getElem?_getD, List.getElem?_eq_getElem h, Option.getD_some]
  exact List.getElem_mem h
theorem copy_loop {α : Type} [Inhabited α] (a : List α) (z : α) (step : List α × Int → Option ((List α × Int) ⊕ (List α ⊕ List α)))
    (hs : ∀ (i : Nat) (o : List α), i < a.length → o.length = a.length → step (o, (i : Int)) = some (.inl (o.set i (a.getD i default), ((i + 1 : Nat) : Int)))) (he : ∀ o, step (o, (a.length : Int)) = some (.inr (.inl o))) :
    iter step (List.replicate a.length z, (0 : Int)) = some (.inl a) := by
  have hh := iter_inv (step := step) (n := a.length) (g := fun o => o) (fun i o => o.length = a.length ∧ ∀ j, j < i → o.getD j default = a.getD j default) ?_ ?_ a.length 0 (List.replicate a.length z) (by omega) ⟨List.length_replicate .., fun j hj => by omega⟩
  · obtain ⟨o, ho, h⟩ := hh
    rw [show ((0 : Nat) : Int) = 0 from rfl] at h
    rw [h]
    congr 2
    refine List.ext_getElem ho.1 fun i h1 h2 => ?_
    have := ho.2 i h2
    rwa [List.getD_eq_getElem?_getD, List.getD_eq_getElem?_getD, List.getElem?_eq_getElem h1, List.getElem?_eq_getElem h2, Option.getD_some, Option.getD_some] at this
  · rintro i o hi ⟨h1, h2⟩
    refine ⟨o.set i (a.getD i default), hs i o hi h1, by simpa using h1, fun j hj => ?_⟩
    by_cases e : j = i
    · subst e; exact getD_set_self _ _ _ _ (by omega)
    · have := h2 j (by omega)
      rw [← this]
      simp [List.getD_eq_getElem?_getD, List.getElem?_set, Ne.symm e]
  · rintro o ⟨h1, h2⟩
    exact he o
def fitLeaf (x : TLeaf) : Prop := x.Id.size ≤ 9223372036854775807 ∧ x.Flitch.size ≤ 9223372036854775807 ∧ x.Veneer.Species.size ≤ 9223372036854775807 ∧ -9223372036854775808 ≤ x.Veneer.Shade ∧ x.Veneer.Shade ≤ 9223372036854775807 ∧ x.Defects.length ≤ 9223372036854775807
/-- A box on a leaf. -/
def boxB (b : TBox) (w l : Int) : Bool := inR b.X 0 w && (inR b.Y 0 l && (inR b.Width 1 (w - b.X) && inR b.Length 1 (l - b.Y)))
/-- What the two programs call a valid leaf. -/
def leafB (x : TLeaf) (v : Bool) : Bool := nameOk x.Id && (nameOk x.Flitch && (inR x.Number 0 999 && (v && (inR x.Width 10 20000 && (inR x.Length 10 20000 && (!decide ((6 : Int) < ((x.Defects.length : Nat) : Int)) && x.Defects.all fun b => boxB b x.Width x.Length))))))
theorem all_range {α : Type} [Inhabited α] (a : List α) (p : α → Bool) : ((List.range' 0 a.length).all fun i => p (a.getD i default)) = a.all p := by
  rw [Bool.eq_iff_iff, List.all_eq_true, List.all_eq_true]
  constructor
  · intro h x hx
    obtain ⟨i, hi, e⟩ := List.mem_iff_getElem.1 hx
    have := h i (by simp; omega)
    rwa [List.getD_eq_getElem?_getD, List.getElem?_eq_getElem hi, Option.getD_some, e] at this
  · intro h i hi
    have : i < a.length := by simpa using hi
    exact h _ (getD_mem this)
/-- Whether one is found: slices.ContainsFunc. -/
theorem find_loop {α : Type} [Inhabited α] (ds : List α) (p : α → Bool) (hn : ds.length ≤ 1000000000) (step : Int → Option (Int ⊕ (Unit ⊕ Int)))
    (hs : ∀ i : Nat, i < ds.length → step (i : Int) = if p (ds.getD i default) = true then some (.inr (.inr (i : Int))) else some (.inl ((i + 1 : Nat) : Int))) (he : step (ds.length : Int) = some (.inr (.inl ()))) :
    ((jn (iter step (0 : Int)) fun _ => (some (-1 : Int))).bind fun q => (some (decide ((0 : Int) ≤ q)))) = some (ds.any p) := by
  have h := iter_go (A := Unit) (step := step) (n := ds.length) (g := fun _ => ()) (fun i _ => (i : Int)) (fun i _ => ∀ j, j < i → p (ds.getD j default) = false) (fun r => 0 ≤ r ∧ ds.any p = true) ?_ ?_ ds.length 0 () (by omega) (fun j hj => by omega)
  · rw [show ((0 : Nat) : Int) = 0 from rfl] at h
    rcases h with ⟨_, h1, h2⟩ | ⟨r, ⟨h1, h3⟩, h2⟩
    · rw [h2]
      have : ds.any p = false := by
        rw [List.any_eq_false]
        intro x hx
        obtain ⟨i, hi, e⟩ := List.mem_iff_getElem.1 hx
        have := h1 i hi
        rw [List.getD_eq_getElem?_getD, List.getElem?_eq_getElem hi, Option.getD_some, e] at this
        rw [this]
        exact Bool.false_ne_true
      rw [this]
      rfl
    · rw [h2, h3]
      simp only [jn, Option.bind_some, Sum.elim_inr]
      rw [decide_eq_true h1]
  · intro i _ hi hI
    rw [hs i hi]
    cases hb : p (ds.getD i default)
    · refine .inl ⟨(), rfl, fun j hj => ?_⟩
      by_cases e : j = i
      · subst e; exact hb
      · exact hI j (by omega)
    · refine .inr ⟨(i : Int), rfl, by omega, ?_⟩
      rw [List.any_eq_true]
      exact ⟨_, getD_mem hi, hb⟩
  · intro _ _
    rw [he]
theorem not_any (ds : List TBox) (w l : Int) : (!(ds.any fun b => !(boxB b w l))) = ds.all fun b => boxB b w l := by
  induction ds with
  | nil => rfl
  | cons b ds ih => simp only [List.any_cons, List.all_cons, Bool.not_or, Bool.not_not, ih]
/-- What a valid leaf keeps to. -/
structure LeafR (x : TLeaf) : Prop where
  w : 10 ≤ x.Width ∧ x.Width ≤ 20000
  l : 10 ≤ x.Length ∧ x.Length ≤ 20000
  n : x.Defects.length ≤ 6
  d : ∀ b ∈ x.Defects, 0 ≤ b.X ∧ 0 ≤ b.Y ∧ 1 ≤ b.Width ∧ 1 ≤ b.Length ∧ b.X + b.Width ≤ x.Width ∧ b.Y + b.Length ≤ x.Length
  sh : 0 ≤ x.Veneer.Shade ∧ x.Veneer.Shade ≤ 100
  gr : 0 ≤ x.Veneer.Grain ∧ x.Veneer.Grain ≤ 179
theorem inR_iff {n lo hi : Int} : inR n lo hi = true ↔ lo ≤ n ∧ n ≤ hi := by unfold inR; simp
end Go.Proofs.Ytnnpjblpiecfdaa.Fw
namespace Go.Proofs.Ytnnpjblpiecfdaa.Fw
open Go.RowKit
set_option linter.unusedVariables false
set_option linter.unusedSimpArgs false
theorem getD_eq {α : Type} [Inhabited α] {l : List α} {i : Nat} (h : i < l.length) : l.getD i default = l[i] := by
  rw [List.getD_eq_getElem?_getD, List.getElem?_eq_getElem h, Option.getD_some]
/-- Where something begins or ends. -/
def cutP (ds : List TBox) (p q : TBox → Int) (W : Int) (i : Nat) (z : Int) : Prop := z = 0 ∨ z = W ∨ ∃ j, j < i ∧ (z = p (ds.getD j default) ∨ z = q (ds.getD j default))
theorem cutP_succ (ds : List TBox) (p q : TBox → Int) (W : Int) (i : Nat) (z : Int) : cutP ds p q W (i + 1) z ↔ cutP ds p q W i z ∨ z = p (ds.getD i default) ∨ z = q (ds.getD i default) := by
  unfold cutP
  constructor
  · rintro (h | h | ⟨j, h1, h2⟩)
    · exact .inl (.inl h)
    · exact .inl (.inr (.inl h))
    · by_cases e : j = i
      · subst e; exact .inr h2
      · exact .inl (.inr (.inr ⟨j, by omega, h2⟩))
  · rintro ((h | h | ⟨j, h1, h2⟩) | h)
    · exact .inl h
    · exact .inr (.inl h)
    · exact .inr (.inr ⟨j, by omega, h2⟩)
    · exact .inr (.inr ⟨i, by omega, h⟩)
theorem put_loop (ds : List TBox) (p q : TBox → Int) (W : Int) (hW : 0 < W) (hn : ds.length ≤ 6) (step : List Int × Int → Option ((List Int × Int) ⊕ (List Int ⊕ List Int)))
    (hs : ∀ (i : Nat) (o : List Int), i < ds.length → o.length ≤ 100 → step (o, (i : Int)) = some (.inl (ins (q (ds.getD i default)) (ins (p (ds.getD i default)) o), ((i + 1 : Nat) : Int)))) (he : ∀ o, step (o, (ds.length : Int)) = some (.inr (.inl o))) :
    ∃ o, iter step (([0, W] : List Int), (0 : Int)) = some (.inl o) ∧ o.Pairwise (· < ·) ∧ o.length ≤ 14 ∧ ∀ z, z ∈ o ↔ cutP ds p q W ds.length z := by
  have h := iter_inv (step := step) (n := ds.length) (g := fun o => o) (fun i o => o.Pairwise (· < ·) ∧ o.length ≤ 2 + 2 * i ∧ ∀ z, z ∈ o ↔ cutP ds p q W i z) ?_ ?_ ds.length 0 [0, W] (by omega) ⟨by simp [hW], by simp, fun z => by simp [cutP]⟩
  · obtain ⟨o, ⟨h1, h2, h3⟩, h⟩ := h
    exact ⟨o, h, h1, by omega, h3⟩
  · rintro i o hi ⟨h1, h2, h3⟩
    refine ⟨_, hs i o hi (by omega), ins_lt _ _ (ins_lt _ _ h1), ?_, fun z => ?_⟩
    · have a := ins_len (q (ds.getD i default)) (ins (p (ds.getD i default)) o)
      have b := ins_len (p (ds.getD i default)) o
      omega
    · rw [mem_ins, mem_ins, h3, cutP_succ]
      constructor
      · rintro (h | h | h)
        · exact .inr (.inr h)
        · exact .inr (.inl h)
        · exact .inl h
      · rintro (h | h | h)
        · exact .inr (.inr h)
        · exact .inr (.inl h)
        · exact .inl h
  · rintro o _
    exact he o
theorem cutP_le (x : TLeaf) (h : LeafR x) {z : Int} (hz : cutP x.Defects (·.X) (fun b => b.X + b.Width) x.Width x.Defects.length z) : 0 ≤ z ∧ z ≤ 20000 := by
  have hw := h.w
  rcases hz with rfl | rfl | ⟨j, hj, h2⟩
  · omega
  · omega
  · have := h.d _ (getD_mem hj)
    simp only at h2
    omega
theorem cutP_leY (x : TLeaf) (h : LeafR x) {z : Int} (hz : cutP x.Defects (·.Y) (fun b => b.Y + b.Length) x.Length x.Defects.length z) : 0 ≤ z ∧ z ≤ 20000 := by
  have hw := h.l
  rcases hz with rfl | rfl | ⟨j, hj, h2⟩
  · omega
  · omega
  · have := h.d _ (getD_mem hj)
    simp only at h2
    omega
/-- The program's lists before they are sorted. -/
theorem i_cuts (x : TLeaf) (h : LeafR x) : ∃ xs ys : List Int, iter (G.i_UsableArea.s0 x.Defects) (([(0 : Int), x.Width] : List Int), ([(0 : Int), x.Length] : List Int), (0 : Int)) = some (.inl (xs, ys)) ∧ xs.length ≤ 14 ∧ ys.length ≤ 14 ∧
    (∀ z, z ∈ xs ↔ cutP x.Defects (·.X) (fun b => b.X + b.Width) x.Width x.Defects.length z) ∧ (∀ z, z ∈ ys ↔ cutP x.Defects (·.Y) (fun b => b.Y + b.Length) x.Length x.Defects.length z) := by
  have hn := h.n
  have hw := h.w
  have hl := h.l
  have hh := iter_go (step := G.i_UsableArea.s0 x.Defects) (n := x.Defects.length) (A := List Int × List Int) (g := fun a => a) (fun i a => (a.1, a.2, (i : Int)))
    (fun i a => a.1.length = 2 + 2 * i ∧ a.2.length = 2 + 2 * i ∧ (∀ z, z ∈ a.1 ↔ cutP x.Defects (·.X) (fun b => b.X + b.Width) x.Width i z) ∧ (∀ z, z ∈ a.2 ↔ cutP x.Defects (·.Y) (fun b => b.Y + b.Length) x.Length i z)) (fun _ => False) ?_ ?_ x.Defects.length 0 ([0, x.Width], [0, x.Length]) (by omega) ⟨by simp, by simp, fun z => by simp [cutP], fun z => by simp [cutP]⟩
  · rcases hh with ⟨⟨xs, ys⟩, ⟨h1, h2, h3, h4⟩, h⟩ | ⟨r, hr, _⟩
    · simp only at h1 h2
      exact ⟨xs, ys, h, by omega, by omega, h3, h4⟩
    · exact hr.elim
  · rintro i ⟨xs, ys⟩ hi ⟨h1, h2, h3, h4⟩
    simp only at h1 h2 h3 h4
    have hb := h.d _ (getD_mem hi)
    simp only [G.i_UsableArea.s0, Int.toNat_natCast]
    rw [decide_eq_true (by omega), cond_true, if_pos ⟨by omega, by omega⟩, if_pos ⟨by omega, by omega⟩, if_pos ⟨by omega, by omega⟩, wrap64 (x := (x.Defects.getD i default).X + (x.Defects.getD i default).Width) (by omega) (by omega), wrap64 (x := (x.Defects.getD i default).Y + (x.Defects.getD i default).Length) (by omega) (by omega), wrap64 (by omega) (by omega)]
    refine .inl ⟨(xs ++ [(x.Defects.getD i default).X, (x.Defects.getD i default).X + (x.Defects.getD i default).Width], ys ++ [(x.Defects.getD i default).Y, (x.Defects.getD i default).Y + (x.Defects.getD i default).Length]), rfl, ?_, ?_, fun z => ?_, fun z => ?_⟩
    · simp only [List.length_append, List.length_cons, List.length_nil]; omega
    · simp only [List.length_append, List.length_cons, List.length_nil]; omega
    · rw [List.mem_append, h3, cutP_succ]; simp
    · rw [List.mem_append, h4, cutP_succ]; simp
  · rintro ⟨xs, ys⟩ _
    simp only [G.i_UsableArea.s0]
    rw [decide_eq_false (by omega), cond_false]
theorem sortI_le (l : List Int) : (sortI l).Pairwise (· ≤ ·) := by
  have := List.pairwise_mergeSort (le := fun x y : Int => decide (x ≤ y)) (fun a b c h1 h2 => by simp only [decide_eq_true_eq] at *; omega) (fun a b => by simp only [Bool.or_eq_true, decide_eq_true_eq]; omega) l
  exact this.imp (fun h => by simpa using h)
theorem mem_sortI (z : Int) (l : List Int) : z ∈ sortI l ↔ z ∈ l := List.mem_mergeSort
/-- The sorted list without doubles is the rising one. -/
theorem dd_sort {l o : List Int} (ho : o.Pairwise (· < ·)) (h : ∀ z, z ∈ o ↔ z ∈ l) : dd (sortI l) = o :=
  rising_eq _ _ (dd_lt _ (sortI_le l)) ho fun z => by rw [mem_dd, mem_sortI, h]
end Go.Proofs.Ytnnpjblpiecfdaa.Fw
namespace Go.Proofs.Ytnnpjblpiecfdaa.Fw
open Go.RowKit
set_option linter.unusedVariables false
set_option linter.unusedSimpArgs false
def meetB (b : TBox) (x y w l : Int) : Bool := decide (x < b.X + b.Width) && (decide (b.X < x + w) && (decide (y < b.Y + b.Length) && decide (b.Y < y + l)))
def meetI (b : TBox) (x y w l : Int) : Bool := decide (0 < min (b.X + b.Width) (x + w) - max b.X x) && decide (0 < min (b.Y + b.Length) (y + l) - max b.Y y)
theorem meet_eq (b : TBox) (x y w l : Int) (h1 : 1 ≤ b.Width) (h2 : 1 ≤ b.Length) (h3 : 0 < w) (h4 : 0 < l) : meetI b x y w l = meetB b x y w l := by
  unfold meetI meetB
  rw [Bool.eq_iff_iff]
  simp only [Bool.and_eq_true, decide_eq_true_eq]
  omega
/-- Boxes within the greatest leaf. -/
def inBox (b : TBox) : Prop := 0 ≤ b.X ∧ b.X ≤ 20000 ∧ 0 ≤ b.Y ∧ b.Y ≤ 20000 ∧ 0 ≤ b.Width ∧ b.Width ≤ 20000 ∧ 0 ≤ b.Length ∧ b.Length ≤ 20000
theorem any_none (ds : List TBox) (p : TBox → Bool) : (ds.all fun b => !p b) = !(ds.any p) := by
  induction ds with
  | nil => rfl
  | cons b ds ih => simp only [List.any_cons, List.all_cons, Bool.not_or, ih]
theorem p_boxesMeet (b a : TBox) (ha : inBox a) (hb : inBox b) : G.i_UsableArea_1 b.X b.Y b.Width b.Length a.X a.Y a.Width a.Length = some (meetI b a.X a.Y a.Width a.Length) := by
  unfold inBox at ha hb
  unfold G.i_UsableArea_1 G.i_boxesMeet G.i_common meetI
  rw [wrap64 (x := b.X + b.Width) (by omega) (by omega), wrap64 (x := a.X + a.Width) (by omega) (by omega), wrap64 (x := b.Y + b.Length) (by omega) (by omega), wrap64 (x := a.Y + a.Length) (by omega) (by omega)]
  rw [wrap64 (x := min (b.X + b.Width) (a.X + a.Width) - max b.X a.X) (by omega) (by omega), wrap64 (x := min (b.Y + b.Length) (a.Y + a.Length) - max b.Y a.Y) (by omega) (by omega)]
  by_cases c1 : 0 < min (b.X + b.Width) (a.X + a.Width) - max b.X a.X
  · rw [decide_eq_true c1]
    simp only [cond_true, Option.bind_some, Bool.true_and]
  · rw [decide_eq_false c1]
    rfl
theorem p_contains (ds : List TBox) (a : TBox) (ha : inBox a) (hd : ∀ b ∈ ds, inBox b) (hn : ds.length ≤ 1000000000) :
    G.slices_ContainsFunc_i_Box_i_Box_1_i_UsableArea_1 ds a.X a.Y a.Width a.Length = some (ds.any fun b => meetI b a.X a.Y a.Width a.Length) := by
  unfold G.slices_ContainsFunc_i_Box_i_Box_1_i_UsableArea_1 G.slices_IndexFunc_i_Box_i_Box_1_i_UsableArea_1
  refine find_loop ds (fun b => meetI b a.X a.Y a.Width a.Length) hn _ ?_ ?_
  · intro i hi
    simp only [G.slices_IndexFunc_i_Box_i_Box_1_i_UsableArea_1.s0, Int.toNat_natCast]
    rw [decide_eq_true (by omega), cond_true, if_pos ⟨by omega, by omega⟩, p_boxesMeet _ a ha (hd _ (getD_mem hi)), wrap64 (by omega) (by omega)]
    simp only [Option.bind_some]
    cases meetI (ds.getD i default) a.X a.Y a.Width a.Length <;> rfl
  · simp only [G.slices_IndexFunc_i_Box_i_Box_1_i_UsableArea_1.s0]
    rw [decide_eq_false (by omega), cond_false]
/-- What a part of the leaf adds. -/
def partU (m : TBox → Int → Int → Int → Int → Bool) (ds : List TBox) (a b c d : Int) : Int := if (ds.any fun e => m e a c (b - a) (d - c)) = true then 0 else (b - a) * (d - c)
theorem area_le {p q : Int} (h1 : 0 ≤ p) (h2 : p ≤ 20000) (h3 : 0 ≤ q) (h4 : q ≤ 20000) : 0 ≤ p * q ∧ p * q ≤ 400000000 := by
  refine ⟨Int.mul_nonneg h1 h3, ?_⟩
  have := Int.mul_le_mul h2 h4 h3 (by omega)
  omega
theorem partU_le (m : TBox → Int → Int → Int → Int → Bool) (ds : List TBox) {a b c d : Int} (h1 : 0 ≤ a) (h2 : a ≤ b) (h3 : b ≤ 20000) (h4 : 0 ≤ c) (h5 : c ≤ d) (h6 : d ≤ 20000) : 0 ≤ partU m ds a b c d ∧ partU m ds a b c d ≤ 400000000 := by
  unfold partU
  have := area_le (p := b - a) (q := d - c) (by omega) (by omega) (by omega) (by omega)
  split <;> omega
theorem partU_eq (ds : List TBox) (hd : ∀ b ∈ ds, 1 ≤ b.Width ∧ 1 ≤ b.Length) {a b c d : Int} (h2 : a ≤ b) (h5 : c ≤ d) : partU meetI ds a b c d = partU meetB ds a b c d := by
  unfold partU
  by_cases e1 : a = b
  · subst e1
    simp
  · by_cases e2 : c = d
    · subst e2
      simp
    · have : (ds.any fun e => meetI e a c (b - a) (d - c)) = ds.any fun e => meetB e a c (b - a) (d - c) := by
        rw [Bool.eq_iff_iff, List.any_eq_true, List.any_eq_true]
        constructor
        · rintro ⟨x, hx, h⟩
          have := hd x hx
          exact ⟨x, hx, by rwa [meet_eq x _ _ _ _ this.1 this.2 (by omega) (by omega)] at h⟩
        · rintro ⟨x, hx, h⟩
          have := hd x hx
          exact ⟨x, hx, by rwa [meet_eq x _ _ _ _ this.1 this.2 (by omega) (by omega)]⟩
      rw [this]
theorem pairSum_congr (f g : Int → Int → Int) (l : List Int) (hp : l.Pairwise (· ≤ ·)) (h : ∀ a b, a ≤ b → f a b = g a b) : pairSum f l = pairSum g l := by
  match l with
  | [] => rfl
  | [a] => rfl
  | a :: b :: l =>
    have h2 := List.pairwise_cons.1 hp
    rw [pairSum, pairSum, h a b (h2.1 b (List.mem_cons_self ..)), pairSum_congr f g (b :: l) h2.2 h]
termination_by l.length
theorem pairSum_zero (l : List Int) : pairSum (fun _ _ => 0) l = 0 := by
  match l with
  | [] => rfl
  | [a] => rfl
  | a :: b :: l => rw [pairSum, pairSum_zero (b :: l)]; rfl
termination_by l.length
/-- The usable area by cuts. -/
def areaU (m : TBox → Int → Int → Int → Int → Bool) (ds : List TBox) (xs ys : List Int) : Int := pairSum (fun a b => pairSum (fun c d => partU m ds a b c d) ys) xs
theorem areaU_le (m : TBox → Int → Int → Int → Int → Bool) (ds : List TBox) (ys : List Int) (hy : ∀ z ∈ ys, 0 ≤ z ∧ z ≤ 20000) (py : ys.Pairwise (· ≤ ·)) (hn : ys.length ≤ 14) {a b : Int} (h1 : 0 ≤ a) (h2 : a ≤ b) (h3 : b ≤ 20000) :
    0 ≤ pairSum (fun c d => partU m ds a b c d) ys ∧ pairSum (fun c d => partU m ds a b c d) ys ≤ 5600000000 := by
  have h := pairSum_le (fun c d => partU m ds a b c d) 400000000 ys (fun c hc d hd hcd => partU_le m ds h1 h2 h3 (hy c hc).1 hcd (hy d hd).2) py
  have : (ys.length : Int) * 400000000 ≤ 14 * 400000000 := Int.mul_le_mul_of_nonneg_right (by omega) (by omega)
  omega
/-- The two loops over the cuts. -/
theorem cuts_loop {R : Type} (m : TBox → Int → Int → Int → Int → Bool) (ds : List TBox) (xs ys : List Int) (hx : ∀ z ∈ xs, 0 ≤ z ∧ z ≤ 20000) (hy : ∀ z ∈ ys, 0 ≤ z ∧ z ≤ 20000) (px : xs.Pairwise (· ≤ ·)) (py : ys.Pairwise (· ≤ ·))
    (nx : xs.length ≤ 14) (ny : ys.length ≤ 14) (x1 : 1 ≤ xs.length) (y1 : 1 ≤ ys.length) (s0 : Int × Int → Option ((Int × Int) ⊕ (Int ⊕ R))) (s1 : Int → Int × Int → Option ((Int × Int) ⊕ (Int ⊕ ((Int × Int) ⊕ (Int ⊕ R)))))
    (h0 : ∀ (sum i : Int), i < (xs.length : Int) → 1 ≤ i → s0 (sum, i) = (jn (iter (s1 i) (sum, (1 : Int))) fun q => some (.inl (q, IntKind.wrap .i64 (i + 1))))) (e0 : ∀ sum : Int, s0 (sum, (xs.length : Int)) = some (.inr (.inl sum)))
    (h1 : ∀ (i k : Nat) (sum : Int), i + 1 < xs.length → k + 1 < ys.length → 0 ≤ sum → sum ≤ 6000000000000 →
      s1 ((i + 1 : Nat) : Int) (sum, ((k + 1 : Nat) : Int)) = some (.inl (sum + partU m ds (xs.getD i default) (xs.getD (i + 1) default) (ys.getD k default) (ys.getD (k + 1) default), ((k + 1 + 1 : Nat) : Int))))
    (e1 : ∀ (i sum : Int), s1 i (sum, (ys.length : Int)) = some (.inr (.inl sum))) :
    iter s0 ((0 : Int), (1 : Int)) = some (.inl (areaU m ds xs ys)) := by
  have h := iter_pairs (step := s0) xs (fun a b => pairSum (fun c d => partU m ds a b c d) ys) 5600000000 0 x1 (by omega) (fun a ha b hb hab => areaU_le m ds ys hy py ny (hx a ha).1 hab (hx b hb).2) px ?_ e0
  · rw [Int.zero_add] at h
    exact h
  · intro i sum hi b1 b2
    have hxi : xs.getD i default ∈ xs := getD_mem (by omega)
    have hxj : xs.getD (i + 1) default ∈ xs := getD_mem (by omega)
    have hle : xs.getD i default ≤ xs.getD (i + 1) default := by
      rw [getD_eq (by omega), getD_eq (by omega)]
      exact List.pairwise_iff_getElem.1 px i (i + 1) (by omega) (by omega) (by omega)
    have hin := iter_pairs (step := s1 ((i + 1 : Nat) : Int)) ys (fun c d => partU m ds (xs.getD i default) (xs.getD (i + 1) default) c d) 400000000 sum y1 (by omega) (fun c hc d hd hcd => partU_le m ds (hx _ hxi).1 hle (hx _ hxj).2 (hy c hc).1 hcd (hy d hd).2) py
      (fun k s hk g1 g2 => h1 i k s hi hk (by omega) (by omega)) (e1 _)
    rw [h0 _ _ (by omega) (by omega), hin, wrap64 (by omega) (by omega)]
    rfl
theorem i_usable (ds : List TBox) (xs ys : List Int) (hx : ∀ z ∈ xs, 0 ≤ z ∧ z ≤ 20000) (hy : ∀ z ∈ ys, 0 ≤ z ∧ z ≤ 20000) (px : xs.Pairwise (· ≤ ·)) (py : ys.Pairwise (· ≤ ·))
    (nx : xs.length ≤ 14) (ny : ys.length ≤ 14) (x1 : 1 ≤ xs.length) (y1 : 1 ≤ ys.length) (hd : ∀ b ∈ ds, inBox b) (hn : ds.length ≤ 6) :
    iter (G.i_UsableArea.s1 ds xs ys) ((0 : Int), (1 : Int)) = some (.inl (areaU meetI ds xs ys)) := by
  refine cuts_loop meetI ds xs ys hx hy px py nx ny x1 y1 _ (G.i_UsableArea.s2 ds xs ys) ?_ ?_ ?_ ?_
  · intro sum i hi h1
    simp only [G.i_UsableArea.s1]
    rw [decide_eq_true hi, cond_true]
  · intro sum
    simp only [G.i_UsableArea.s1]
    rw [decide_eq_false (by omega), cond_false]
  · intro i k sum hi hk b1 b2
    have hwi : IntKind.wrap .i64 (((i + 1 : Nat) : Int) - 1) = (i : Int) := by rw [wrap64 (by omega) (by omega)]; omega
    have hwk : IntKind.wrap .i64 (((k + 1 : Nat) : Int) - 1) = (k : Int) := by rw [wrap64 (by omega) (by omega)]; omega
    have hwn : IntKind.wrap .i64 (((k + 1 : Nat) : Int) + 1) = ((k + 1 + 1 : Nat) : Int) := by rw [wrap64 (by omega) (by omega)]; omega
    have ga := hx _ (getD_mem (l := xs) (i := i) (by omega))
    have gb := hx _ (getD_mem (l := xs) (i := i + 1) (by omega))
    have gc := hy _ (getD_mem (l := ys) (i := k) (by omega))
    have gd := hy _ (getD_mem (l := ys) (i := k + 1) (by omega))
    have hab : xs.getD i default ≤ xs.getD (i + 1) default := by
      rw [getD_eq (by omega), getD_eq (by omega)]
      exact List.pairwise_iff_getElem.1 px i (i + 1) (by omega) (by omega) (by omega)
    have hcd : ys.getD k default ≤ ys.getD (k + 1) default := by
      rw [getD_eq (by omega), getD_eq (by omega)]
      exact List.pairwise_iff_getElem.1 py k (k + 1) (by omega) (by omega) (by omega)
    simp only [G.i_UsableArea.s2, hwi, hwk, hwn, Int.toNat_natCast]
    rw [decide_eq_true (by omega), cond_true, if_pos ⟨by omega, by omega⟩, if_pos ⟨by omega, by omega⟩, if_pos ⟨by omega, by omega⟩, if_pos ⟨by omega, by omega⟩, if_pos ⟨by omega, by omega⟩, if_pos ⟨by omega, by omega⟩]
    unfold partU
    generalize xs.getD i default = a at *
    generalize xs.getD (i + 1) default = b at *
    generalize ys.getD k default = c at *
    generalize ys.getD (k + 1) default = d at *
    have har := area_le (p := b - a) (q := d - c) (by omega) (by omega) (by omega) (by omega)
    rw [wrap64 (x := b - a) (by omega) (by omega), wrap64 (x := d - c) (by omega) (by omega), wrap64 (x := (b - a) * (d - c)) (by omega) (by omega), wrap64 (x := sum + (b - a) * (d - c)) (by omega) (by omega)]
    rw [p_contains ds ⟨a, c, b - a, d - c⟩ ⟨by simp only; omega, by simp only; omega, by simp only; omega, by simp only; omega, by simp only; omega, by simp only; omega, by simp only; omega, by simp only; omega⟩ hd (by omega)]
    simp only [Option.bind_some]
    cases ds.any fun e => meetI e a c (b - a) (d - c)
    · rfl
    · simp
  · intro i sum
    simp only [G.i_UsableArea.s2]
    rw [decide_eq_false (by omega), cond_false]
theorem areaU_eq (ds : List TBox) (hd : ∀ b ∈ ds, 1 ≤ b.Width ∧ 1 ≤ b.Length) {xs ys o1 o2 : List Int} (px : xs.Pairwise (· ≤ ·)) (py : ys.Pairwise (· ≤ ·)) (h1 : dd xs = o1) (h2 : dd ys = o2) : areaU meetI ds xs ys = areaU meetB ds o1 o2 := by
  subst h1 h2
  unfold areaU
  rw [pairSum_dd _ (fun a => ?_) xs]
  · refine pairSum_congr _ _ xs px fun a b hab => ?_
    rw [pairSum_dd _ (fun c => ?_) ys]
    · exact pairSum_congr _ _ ys py fun c d hcd => partU_eq ds hd hab hcd
    · simp [partU]
  · have : (fun c d => partU meetB ds a a c d) = fun _ _ => 0 := by
      funext c d
      simp [partU]
    rw [this, pairSum_zero]
end Go.Proofs.Ytnnpjblpiecfdaa.Fw
namespace Go.Proofs.Ytnnpjblpiecfdaa.Fw
open Go.RowKit
set_option linter.unusedVariables false
set_option linter.unusedSimpArgs false
theorem pairSum_ge0 (f : Int → Int → Int) : ∀ (l : List Int) (a : Int), (a :: l).Pairwise (· ≤ ·) → (∀ p ∈ a :: l, ∀ q ∈ a :: l, p ≤ q → 0 ≤ f p q) → 0 ≤ pairSum f (a :: l)
  | [], a, _, _ => by simp [pairSum]
  | b :: l, a, hp, h => by
    have h2 := List.pairwise_cons.1 hp
    have ih := pairSum_ge0 f l b h2.2 (fun p hp q hq => h p (List.mem_cons_of_mem _ hp) q (List.mem_cons_of_mem _ hq))
    have h3 := h a (List.mem_cons_self ..) b (List.mem_cons_of_mem _ (List.mem_cons_self ..)) (h2.1 b (List.mem_cons_self ..))
    rw [pairSum]; omega
theorem pairSum_up (k hi : Int) (hk : 0 ≤ k) (f : Int → Int → Int) : ∀ (l : List Int) (a : Int), (a :: l).Pairwise (· ≤ ·) → (∀ z ∈ a :: l, z ≤ hi) → (∀ p ∈ a :: l, ∀ q ∈ a :: l, p ≤ q → f p q ≤ k * (q - p)) → pairSum f (a :: l) ≤ k * (hi - a)
  | [], a, _, hz, _ => by
    have := hz a (List.mem_cons_self ..)
    have := Int.mul_nonneg hk (show 0 ≤ hi - a by omega)
    simp only [pairSum]; omega
  | b :: l, a, hp, hz, h => by
    have h2 := List.pairwise_cons.1 hp
    have ih := pairSum_up k hi hk f l b h2.2 (fun z hm => hz z (List.mem_cons_of_mem _ hm)) (fun p hp q hq => h p (List.mem_cons_of_mem _ hp) q (List.mem_cons_of_mem _ hq))
    have h3 := h a (List.mem_cons_self ..) b (List.mem_cons_of_mem _ (List.mem_cons_self ..)) (h2.1 b (List.mem_cons_self ..))
    have e : k * (b - a) + k * (hi - b) = k * (hi - a) := by rw [← Int.mul_add]; congr 1; omega
    rw [pairSum]; omega
theorem pairSum_lowA (k x x' : Int) (f : Int → Int → Int) : ∀ (l : List Int) (a : Int), (a :: l).Pairwise (· ≤ ·) → (∀ p ∈ a :: l, ∀ q ∈ a :: l, p ≤ q → 0 ≤ f p q) → x ≤ a → x' ∈ a :: l →
    (∀ p ∈ a :: l, ∀ q ∈ a :: l, x ≤ p → p ≤ q → q ≤ x' → k * (q - p) ≤ f p q) → k * (x' - a) ≤ pairSum f (a :: l)
  | [], a, _, _, _, hm, _ => by
    have : x' = a := by simpa using hm
    subst this
    simp [pairSum]
  | b :: l, a, hp, h0, hx, hm, h => by
    have h2 := List.pairwise_cons.1 hp
    have g0 := pairSum_ge0 f (b :: l) a hp h0
    rcases List.mem_cons.1 hm with e | hm
    · subst e
      simpa using g0
    · have hb : b ≤ x' := by
        rcases List.mem_cons.1 hm with e | hm2
        · omega
        · exact (List.pairwise_cons.1 h2.2).1 _ hm2
      have ha := h2.1 b (List.mem_cons_self ..)
      have ih := pairSum_lowA k x x' f l b h2.2 (fun p hp q hq => h0 p (List.mem_cons_of_mem _ hp) q (List.mem_cons_of_mem _ hq)) (by omega) hm (fun p hp q hq => h p (List.mem_cons_of_mem _ hp) q (List.mem_cons_of_mem _ hq))
      have h3 := h a (List.mem_cons_self ..) b (List.mem_cons_of_mem _ (List.mem_cons_self ..)) hx ha hb
      have e : k * (b - a) + k * (x' - b) = k * (x' - a) := by rw [← Int.mul_add]; congr 1; omega
      rw [pairSum]; omega
theorem pairSum_low (k x x' : Int) (hxx : x ≤ x') (f : Int → Int → Int) : ∀ (l : List Int) (a : Int), (a :: l).Pairwise (· ≤ ·) → (∀ p ∈ a :: l, ∀ q ∈ a :: l, p ≤ q → 0 ≤ f p q) → x ∈ a :: l → x' ∈ a :: l →
    (∀ p ∈ a :: l, ∀ q ∈ a :: l, x ≤ p → p ≤ q → q ≤ x' → k * (q - p) ≤ f p q) → k * (x' - x) ≤ pairSum f (a :: l)
  | [], a, hp, h0, hx, hm, h => by
    have e : x = a := by simpa using hx
    subst e
    exact pairSum_lowA k x x' f [] x hp h0 (Int.le_refl _) hm h
  | b :: l, a, hp, h0, hx, hm, h => by
    have h2 := List.pairwise_cons.1 hp
    rcases List.mem_cons.1 hx with e | hx2
    · subst e
      exact pairSum_lowA k x x' f (b :: l) x hp h0 (Int.le_refl _) hm h
    · have hax := h2.1 x hx2
      have g0 := pairSum_ge0 f (b :: l) a hp h0
      rcases List.mem_cons.1 hm with e | hm2
      · have : x' - x = 0 := by omega
        rw [this]; simpa using g0
      · have ih := pairSum_low k x x' hxx f l b h2.2 (fun p hp q hq => h0 p (List.mem_cons_of_mem _ hp) q (List.mem_cons_of_mem _ hq)) hx2 hm2 (fun p hp q hq => h p (List.mem_cons_of_mem _ hp) q (List.mem_cons_of_mem _ hq))
        have h3 := h0 a (List.mem_cons_self ..) b (List.mem_cons_of_mem _ (List.mem_cons_self ..)) (h2.1 b (List.mem_cons_self ..))
        rw [pairSum]; omega
theorem pairSum_pos (f : Int → Int → Int) : ∀ (l : List Int), l.Pairwise (· ≤ ·) → pairSum f l ≠ 0 → ∃ a ∈ l, ∃ b ∈ l, a ≤ b ∧ f a b ≠ 0
  | [], _, h => absurd rfl h
  | [a], _, h => absurd rfl h
  | a :: b :: l, hp, h => by
    have h2 := List.pairwise_cons.1 hp
    by_cases c : f a b = 0
    · obtain ⟨p, hp, q, hq, h3, h4⟩ := pairSum_pos f (b :: l) h2.2 (by rw [pairSum, c] at h; omega)
      exact ⟨p, List.mem_cons_of_mem _ hp, q, List.mem_cons_of_mem _ hq, h3, h4⟩
    · exact ⟨a, List.mem_cons_self .., b, List.mem_cons_of_mem _ (List.mem_cons_self ..), h2.1 b (List.mem_cons_self ..), c⟩
theorem meetI_iff (e : TBox) (x y w l : Int) : meetI e x y w l = true ↔ max e.X x < min (e.X + e.Width) (x + w) ∧ max e.Y y < min (e.Y + e.Length) (y + l) := by
  unfold meetI
  simp only [Bool.and_eq_true, decide_eq_true_eq]
  omega
theorem partU_nn (ds : List TBox) {a b c d : Int} (h1 : a ≤ b) (h2 : c ≤ d) : 0 ≤ partU meetI ds a b c d ∧ partU meetI ds a b c d ≤ (b - a) * (d - c) := by
  have := Int.mul_nonneg (show 0 ≤ b - a by omega) (show 0 ≤ d - c by omega)
  unfold partU
  split <;> omega
theorem area_up (ds : List TBox) {xs ys : List Int} (px : xs.Pairwise (· ≤ ·)) (py : ys.Pairwise (· ≤ ·)) {W L : Int} (hx : ∀ z ∈ xs, 0 ≤ z ∧ z ≤ W) (hy : ∀ z ∈ ys, 0 ≤ z ∧ z ≤ L) (hW : 0 ≤ W) (hL : 0 ≤ L) : 0 ≤ areaU meetI ds xs ys ∧ areaU meetI ds xs ys ≤ W * L := by
  have inner : ∀ a b, a ≤ b → 0 ≤ pairSum (fun c d => partU meetI ds a b c d) ys ∧ pairSum (fun c d => partU meetI ds a b c d) ys ≤ L * (b - a) := by
    intro a b hab
    cases ys with
    | nil => exact ⟨by simp [pairSum], by have := Int.mul_nonneg hL (show 0 ≤ b - a by omega); simpa [pairSum] using this⟩
    | cons y0 ys =>
      refine ⟨pairSum_ge0 _ ys y0 py fun p _ q _ hpq => (partU_nn ds hab hpq).1, ?_⟩
      have h1 := pairSum_up (b - a) L (by omega) (fun c d => partU meetI ds a b c d) ys y0 py (fun z hz => (hy z hz).2) (fun p _ q _ hpq => (partU_nn ds hab hpq).2)
      have h2 := (hy y0 (List.mem_cons_self ..)).1
      have h3 : (b - a) * (L - y0) ≤ (b - a) * L := Int.mul_le_mul_of_nonneg_left (by omega) (by omega)
      rw [Int.mul_comm L (b - a)]
      omega
  unfold areaU
  cases xs with
  | nil => exact ⟨by simp [pairSum], by have := Int.mul_nonneg hW hL; simpa [pairSum] using this⟩
  | cons x0 xs =>
    refine ⟨pairSum_ge0 _ xs x0 px fun p _ q _ hpq => (inner p q hpq).1, ?_⟩
    have h1 := pairSum_up L W hL (fun a b => pairSum (fun c d => partU meetI ds a b c d) ys) xs x0 px (fun z hz => (hx z hz).2) (fun p _ q _ hpq => (inner p q hpq).2)
    have h2 := (hx x0 (List.mem_cons_self ..)).1
    have h3 : L * (W - x0) ≤ L * W := Int.mul_le_mul_of_nonneg_left (by omega) hL
    rw [Int.mul_comm W L]
    omega
/-- A clear box with its sides at cuts is usable as a whole. -/
theorem area_low (ds : List TBox) {xs ys : List Int} (px : xs.Pairwise (· ≤ ·)) (py : ys.Pairwise (· ≤ ·)) {X Y w l : Int} (hw : 0 ≤ w) (hl : 0 ≤ l) (x1 : X ∈ xs) (x2 : X + w ∈ xs) (y1 : Y ∈ ys) (y2 : Y + l ∈ ys)
    (hc : (ds.any fun e => meetI e X Y w l) = false) : w * l ≤ areaU meetI ds xs ys := by
  have part : ∀ a b c d, X ≤ a → a ≤ b → b ≤ X + w → Y ≤ c → c ≤ d → d ≤ Y + l → partU meetI ds a b c d = (b - a) * (d - c) := by
    intro a b c d h1 h2 h3 h4 h5 h6
    unfold partU
    have : (ds.any fun e => meetI e a c (b - a) (d - c)) = false := by
      rw [List.any_eq_false] at hc ⊢
      intro e he hm
      refine hc e he ?_
      rw [meetI_iff] at hm ⊢
      omega
    rw [this]
    simp
  have inner : ∀ a b, a ≤ b → 0 ≤ pairSum (fun c d => partU meetI ds a b c d) ys ∧ (X ≤ a → b ≤ X + w → l * (b - a) ≤ pairSum (fun c d => partU meetI ds a b c d) ys) := by
    intro a b hab
    cases ys with
    | nil => simp at y1
    | cons y0 ys =>
      refine ⟨pairSum_ge0 _ ys y0 py fun p _ q _ hpq => (partU_nn ds hab hpq).1, fun h1 h2 => ?_⟩
      have h := pairSum_low (b - a) Y (Y + l) (by omega) (fun c d => partU meetI ds a b c d) ys y0 py (fun p _ q _ hpq => (partU_nn ds hab hpq).1) y1 y2 (fun p _ q _ g1 g2 g3 => by rw [part a b p q h1 hab h2 g1 g2 g3]; exact Int.le_refl _)
      rw [show Y + l - Y = l by omega] at h
      rw [Int.mul_comm]; exact h
  unfold areaU
  cases xs with
  | nil => simp at x1
  | cons x0 xs =>
    have h := pairSum_low l X (X + w) (by omega) (fun a b => pairSum (fun c d => partU meetI ds a b c d) ys) xs x0 px (fun p _ q _ hpq => (inner p q hpq).1) x1 x2 (fun p _ q _ g1 g2 g3 => (inner p q g2).2 g1 g3)
    rw [show X + w - X = w by omega] at h
    rw [Int.mul_comm]; exact h
theorem area_pos (ds : List TBox) {xs ys : List Int} (px : xs.Pairwise (· ≤ ·)) (py : ys.Pairwise (· ≤ ·)) (h : areaU meetI ds xs ys ≠ 0) : ∃ a ∈ xs, ∃ b ∈ xs, ∃ c ∈ ys, ∃ d ∈ ys, a < b ∧ c < d ∧ (ds.any fun e => meetI e a c (b - a) (d - c)) = false := by
  obtain ⟨a, ha, b, hb, hab, h1⟩ := pairSum_pos _ xs px h
  obtain ⟨c, hc, d, hd, hcd, h2⟩ := pairSum_pos _ ys py h1
  unfold partU at h2
  refine ⟨a, ha, b, hb, c, hc, d, hd, ?_, ?_, ?_⟩
  · rcases Int.lt_or_le a b with q | q
    · exact q
    · exfalso; apply h2; rw [show b - a = 0 by omega, Int.zero_mul]; simp
  · rcases Int.lt_or_le c d with q | q
    · exact q
    · exfalso; apply h2; rw [show d - c = 0 by omega, Int.mul_zero]; simp
  · cases hm : ds.any fun e => meetI e a c (b - a) (d - c) with
    | false => rfl
    | true => exfalso; apply h2; rw [hm]; rfl
theorem max_le_ex (a : Int) : ∀ (l : List Int), (∃ z ∈ l, z ≤ a) → ∃ x ∈ l, x ≤ a ∧ ∀ z ∈ l, z ≤ a → z ≤ x
  | [], h => by obtain ⟨z, hz, _⟩ := h; simp at hz
  | b :: l, h => by
    by_cases c : ∃ z ∈ l, z ≤ a
    · obtain ⟨x, hx, h1, h2⟩ := max_le_ex a l c
      by_cases d : b ≤ a ∧ x < b
      · refine ⟨b, List.mem_cons_self .., d.1, fun z hz hza => ?_⟩
        rcases List.mem_cons.1 hz with e | hz
        · omega
        · have := h2 z hz hza; omega
      · refine ⟨x, List.mem_cons_of_mem _ hx, h1, fun z hz hza => ?_⟩
        rcases List.mem_cons.1 hz with e | hz
        · omega
        · exact h2 z hz hza
    · obtain ⟨z, hz, hza⟩ := h
      rcases List.mem_cons.1 hz with e | hz
      · subst e
        refine ⟨z, List.mem_cons_self .., hza, fun y hy hya => ?_⟩
        rcases List.mem_cons.1 hy with e | hy
        · omega
        · exact absurd ⟨y, hy, hya⟩ c
      · exact absurd ⟨z, hz, hza⟩ c
theorem min_ge_ex (a : Int) (l : List Int) (h : ∃ z ∈ l, a ≤ z) : ∃ x ∈ l, a ≤ x ∧ ∀ z ∈ l, a ≤ z → x ≤ z := by
  obtain ⟨x, hx, h1, h2⟩ := max_le_ex (-a) (l.map fun z => -z) (by
    obtain ⟨z, hz, hza⟩ := h
    exact ⟨-z, List.mem_map.2 ⟨z, hz, rfl⟩, by omega⟩)
  obtain ⟨y, hy, rfl⟩ := List.mem_map.1 hx
  refine ⟨y, hy, by omega, fun z hz hza => ?_⟩
  have := h2 (-z) (List.mem_map.2 ⟨z, hz, rfl⟩) (by omega)
  omega
/-- A clear part grows to a clear box with its sides at those of the leaf or of defects. -/
theorem grow_box (ds : List TBox) (hd : ∀ e ∈ ds, 1 ≤ e.Width ∧ 1 ≤ e.Length) {W L : Int} {lefts rights lows highs : List Int} (h1 : 0 ∈ lefts) (h2 : W ∈ rights) (h3 : 0 ∈ lows) (h4 : L ∈ highs)
    (g1 : ∀ e ∈ ds, e.X + e.Width ∈ lefts) (g2 : ∀ e ∈ ds, e.X ∈ rights) (g3 : ∀ e ∈ ds, e.Y + e.Length ∈ lows) (g4 : ∀ e ∈ ds, e.Y ∈ highs)
    {a b c d : Int} (ha : 0 ≤ a) (hab : a < b) (hb : b ≤ W) (hc : 0 ≤ c) (hcd : c < d) (hdl : d ≤ L) (hm : (ds.any fun e => meetI e a c (b - a) (d - c)) = false) :
    ∃ x ∈ lefts, ∃ r ∈ rights, ∃ y ∈ lows, ∃ h ∈ highs, 1 ≤ r - x ∧ 1 ≤ h - y ∧ (ds.any fun e => meetI e x y (r - x) (h - y)) = false := by
  obtain ⟨x, hx, x1, x2⟩ := max_le_ex a lefts ⟨0, h1, ha⟩
  obtain ⟨r, hr, r1, r2⟩ := min_ge_ex b rights ⟨W, h2, hb⟩
  obtain ⟨y, hy, y1, y2⟩ := max_le_ex c lows ⟨0, h3, hc⟩
  obtain ⟨h, hh, k1, k2⟩ := min_ge_ex d highs ⟨L, h4, hdl⟩
  refine ⟨x, hx, r, hr, y, hy, h, hh, by omega, by omega, ?_⟩
  rw [List.any_eq_false] at hm ⊢
  intro e he hmeet
  refine hm e he ?_
  rw [meetI_iff] at hmeet ⊢
  have q1 := x2 _ (g1 e he)
  have q2 := r2 _ (g2 e he)
  have q3 := y2 _ (g3 e he)
  have q4 := k2 _ (g4 e he)
  have := hd e he
  by_cases c1 : e.X + e.Width ≤ a
  · have := q1 c1; omega
  · by_cases c2 : b ≤ e.X
    · have := q2 c2; omega
    · by_cases c3 : e.Y + e.Length ≤ c
      · have := q3 c3; omega
      · by_cases c4 : d ≤ e.Y
        · have := q4 c4; omega
        · omega
end Go.Proofs.Ytnnpjblpiecfdaa.Fw
namespace Go.Proofs.Ytnnpjblpiecfdaa.Fw
open Go.RowKit
set_option linter.unusedVariables false
set_option linter.unusedSimpArgs false
def bytesOk (c : List Int) : Prop := c.length ≤ 1048576 ∧ ∀ x ∈ c, 0 ≤ x ∧ x ≤ 255
def srcOk (c : List Int) (m : Int) (s : Tl00Src) : Prop := s.code = c ∧ 0 ≤ s.at_ ∧ s.at_ ≤ m
theorem srcOk.mono {c : List Int} {m n : Int} {s : Tl00Src} (h : srcOk c m s) (hn : m ≤ n) : srcOk c n s := ⟨h.1, h.2.1, by have := h.2.2; omega⟩
theorem and255 (x : BitVec 64) : 0 ≤ ((x &&& BitVec.ofInt 64 255).toNat : Int) ∧ ((x &&& BitVec.ofInt 64 255).toNat : Int) ≤ 255 := by
  have h : (x &&& BitVec.ofInt 64 255).toNat ≤ 255 := by
    rw [BitVec.toNat_and]
    exact Nat.le_trans Nat.and_le_right (by decide)
  omega
theorem wrapU64 {x : Int} (h1 : 0 ≤ x) (h2 : x ≤ 9223372036854775807) : IntKind.wrap .u64 x = x := by
  show x % 18446744073709551616 = x
  omega
theorem p_next {c : List Int} (hc : bytesOk c) {m : Int} (hm : m ≤ 1000000000000) {s : Tl00Src} (h : srcOk c m s) : ∃ s' v, G.s_l00Src_next s.code s.at_ s.seed = some (s', v) ∧ srcOk c (m + 1) s' ∧ 0 ≤ v ∧ v ≤ 255 := by
  obtain ⟨h1, h2, h3⟩ := h
  obtain ⟨hc1, hc2⟩ := hc
  unfold G.s_l00Src_next
  rw [h1]
  have hw : IntKind.wrap .i64 (s.at_ + 1) = s.at_ + 1 := wrap64 (by omega) (by omega)
  have hb : ∃ q, (bif (decide (s.at_ < ((c.length : Nat) : Int))) then (if 0 ≤ s.at_ ∧ s.at_ < ((c.length : Nat) : Int) then (some (IntKind.wrap .i64 (c.getD s.at_.toNat default))) else none) else (some (0 : Int))) = some q ∧ 0 ≤ q ∧ q ≤ 255 := by
    by_cases c1 : s.at_ < ((c.length : Nat) : Int)
    · rw [decide_eq_true c1, cond_true, if_pos ⟨h2, c1⟩]
      have hg : c.getD s.at_.toNat default ∈ c := by
        rw [List.getD_eq_getElem?_getD, List.getElem?_eq_getElem (by omega), Option.getD_some]
        exact List.getElem_mem _
      have := hc2 _ hg
      exact ⟨_, rfl, by rw [wrap64 (by omega) (by omega)]; omega⟩
    · rw [decide_eq_false c1]
      exact ⟨0, rfl, by omega, by omega⟩
  obtain ⟨q, hq, hq1, hq2⟩ := hb
  rw [hq, Option.bind_some, hw]
  by_cases c2 : s.at_ + 1 ≤ ((c.length : Nat) : Int)
  · rw [decide_eq_true c2]
    exact ⟨_, _, rfl, ⟨rfl, by show 0 ≤ s.at_ + 1; omega, by show s.at_ + 1 ≤ m + 1; omega⟩, hq1, hq2⟩
  · rw [decide_eq_false c2]
    refine ⟨_, _, rfl, ⟨rfl, by show 0 ≤ s.at_ + 1; omega, by show s.at_ + 1 ≤ m + 1; omega⟩, ?_⟩
    have key := and255 (BitVec.ofInt 64 ((IntKind.wrap .u64 ((IntKind.wrap .u64 ((IntKind.wrap .u64 (s.seed * (6364136223846793005 : Int))) + (IntKind.wrap .u64 q))) + (1442695040888963407 : Int))).fdiv (2 ^ 40)))
    show 0 ≤ IntKind.wrap .i64 (IntKind.wrap .u64 (((BitVec.ofInt 64 ((IntKind.wrap .u64 ((IntKind.wrap .u64 ((IntKind.wrap .u64 (s.seed * (6364136223846793005 : Int))) + (IntKind.wrap .u64 q))) + (1442695040888963407 : Int))).fdiv (2 ^ 40)) &&& BitVec.ofInt 64 255).toNat : Nat) : Int)) ∧ IntKind.wrap .i64 (IntKind.wrap .u64 (((BitVec.ofInt 64 ((IntKind.wrap .u64 ((IntKind.wrap .u64 ((IntKind.wrap .u64 (s.seed * (6364136223846793005 : Int))) + (IntKind.wrap .u64 q))) + (1442695040888963407 : Int))).fdiv (2 ^ 40)) &&& BitVec.ofInt 64 255).toNat : Nat) : Int)) ≤ 255
    generalize ((((BitVec.ofInt 64 ((IntKind.wrap .u64 ((IntKind.wrap .u64 ((IntKind.wrap .u64 (s.seed * (6364136223846793005 : Int))) + (IntKind.wrap .u64 q))) + (1442695040888963407 : Int))).fdiv (2 ^ 40)) &&& BitVec.ofInt 64 255).toNat : Nat) : Int)) = z at key
    rw [wrapU64 (by omega) (by omega), wrap64 (by omega) (by omega)]
    exact key
theorem p_pick {c : List Int} (hc : bytesOk c) {m : Int} (hm : m ≤ 100000000000) {s : Tl00Src} (h : srcOk c m s) (n : Int) (hn : n ≤ 1000000000000) : ∃ s' v, G.s_l00Src_pick s.code s.at_ s.seed n = some (s', v) ∧ srcOk c (m + 2) s' ∧ 0 ≤ v ∧ (1 ≤ n → v < n) := by
  unfold G.s_l00Src_pick
  by_cases c1 : n ≤ 1
  · rw [decide_eq_true c1]
    exact ⟨_, 0, rfl, ⟨h.1, h.2.1, by have := h.2.2; show s.at_ ≤ m + 2; omega⟩, by omega, by omega⟩
  · rw [decide_eq_false c1]
    obtain ⟨s1, v1, e1, h1, b1, b2⟩ := p_next hc (by omega) h
    rw [cond_false, e1, Option.bind_some]
    by_cases c2 : 200 < n
    · rw [decide_eq_true c2]
      obtain ⟨s2, v2, e2, h2, b3, b4⟩ := p_next hc (m := m + 1) (by omega) h1
      simp only [cond_true, e2, Option.bind_some]
      rw [if_neg (by omega), wrap64 (x := v1 * 256) (by omega) (by omega), wrap64 (x := v1 * 256 + v2) (by omega) (by omega)]
      refine ⟨_, _, rfl, ⟨h2.1, h2.2.1, by have := h2.2.2; show s2.at_ ≤ m + 2; omega⟩, Int.tmod_nonneg _ (by omega), fun _ => Int.tmod_lt_of_pos _ (by omega)⟩
    · rw [decide_eq_false c2]
      simp only [cond_false, Option.bind_some]
      rw [if_neg (by omega)]
      refine ⟨_, _, rfl, ⟨h1.1, h1.2.1, by have := h1.2.2; show s1.at_ ≤ m + 2; omega⟩, Int.tmod_nonneg _ (by omega), fun _ => Int.tmod_lt_of_pos _ (by omega)⟩
theorem mem_getD {α : Type} [Inhabited α] {l : List α} {i : Nat} (hi : i < l.length) : l.getD i default ∈ l := by
  rw [List.getD_eq_getElem?_getD, List.getElem?_eq_getElem hi, Option.getD_some]
  exact List.getElem_mem hi
theorem p_among {c : List Int} (hc : bytesOk c) {m : Int} (hm : m ≤ 100000000000) {s : Tl00Src} (h : srcOk c m s) (l : List Int) (h0 : 1 ≤ l.length) (hl : l.length ≤ 1000000) : ∃ s' v, G.s_l00Src_among s.code s.at_ s.seed l = some (s', v) ∧ srcOk c (m + 2) s' ∧ v ∈ l := by
  obtain ⟨s1, v, e, h1, b1, b2⟩ := p_pick hc hm h ((l.length : Nat) : Int) (by omega)
  have := b2 (by omega)
  refine ⟨s1, _, by rw [G.s_l00Src_among, e, Option.bind_some, if_pos ⟨b1, this⟩], h1, mem_getD (by omega)⟩
theorem p_text {c : List Int} (hc : bytesOk c) {m : Int} (hm : m ≤ 100000000000) {s : Tl00Src} (h : srcOk c m s) (l : List ByteArray) (h0 : 1 ≤ l.length) (hl : l.length ≤ 1000000) : ∃ s' v, G.s_l00Src_text s.code s.at_ s.seed l = some (s', v) ∧ srcOk c (m + 2) s' ∧ v ∈ l := by
  obtain ⟨s1, v, e, h1, b1, b2⟩ := p_pick hc hm h ((l.length : Nat) : Int) (by omega)
  have := b2 (by omega)
  refine ⟨s1, _, by rw [G.s_l00Src_text, e, Option.bind_some, if_pos ⟨b1, this⟩], h1, mem_getD (by omega)⟩
theorem bytes_in {rows : List (List CV)} (h : ∀ r ∈ rows, Okl [.int .u8] r) : ∃ a : List Int, rows = mapR rI_u8 a ∧ ∀ x ∈ a, 0 ≤ x ∧ x ≤ 255 := by
  refine rows_of (f := rI_u8) (rows := rows) (fun r hr => ?_)
  obtain ⟨y0, ys0, rfl, e0, k0⟩ := okcons (h r hr)
  obtain rfl := oknil k0
  obtain ⟨v0, rfl, b0, c0⟩ := okint e0
  exact ⟨v0, rfl, b0, c0⟩
end Go.Proofs.Ytnnpjblpiecfdaa.Fw
namespace Go.Proofs.Ytnnpjblpiecfdaa.Fw
open Go.RowKit
set_option linter.unusedVariables false
set_option linter.unusedSimpArgs false
theorem p_r8At (c : List Int) (hc : bytesOk c) (k n : Int) (hk : 0 ≤ k) (hn : n ≤ 1000000000) : ∃ v, G.l_r8At c k n = some v ∧ 0 ≤ v ∧ v ≤ 255 ∧ (1 ≤ n → v < n) := by
  unfold G.l_r8At
  by_cases c1 : n ≤ 1
  · rw [decide_eq_true c1]
    exact ⟨0, rfl, by omega, by omega, by omega⟩
  · rw [decide_eq_false c1, cond_false, Option.bind_some]
    by_cases c2 : ((c.length : Nat) : Int) ≤ k
    · rw [decide_eq_true c2]
      exact ⟨0, rfl, by omega, by omega, by omega⟩
    · have hb := hc.2 _ (mem_getD (l := c) (i := k.toNat) (by omega))
      rw [decide_eq_false c2, cond_false, if_pos ⟨by omega, by omega⟩, if_neg (by omega), wrap64 (by omega) (by omega)]
      have h1 := Int.tmod_lt_of_pos (c.getD k.toNat default) (show 0 < n by omega)
      have h2 := Int.tmod_nonneg n hb.1
      have h3 : (c.getD k.toNat default).tmod n ≤ c.getD k.toNat default := by
        rw [Int.tmod_eq_emod_of_nonneg hb.1]
        have g1 := Int.mul_ediv_add_emod (c.getD k.toNat default) n
        have g2 := Int.mul_nonneg (show 0 ≤ n by omega) (Int.ediv_nonneg hb.1 (show 0 ≤ n by omega))
        omega
      exact ⟨_, rfl, h2, by omega, fun _ => h1⟩
theorem p_r8Wide (c : List Int) (hc : bytesOk c) (k n : Int) (hk : 0 ≤ k) (hk2 : k ≤ 1000000) (h0 : 1 ≤ n) (hn : n ≤ 1000000000) : ∃ v, G.l_r8Wide c k n = some v ∧ 0 ≤ v ∧ v < n := by
  obtain ⟨a, a1, a2, a3, _⟩ := p_r8At c hc k 256 hk (by omega)
  obtain ⟨b, b1, b2, b3, _⟩ := p_r8At c hc (k + 1) 256 (by omega) (by omega)
  unfold G.l_r8Wide
  rw [a1, Option.bind_some, wrap64 (x := k + 1) (by omega) (by omega), b1, Option.bind_some, if_neg (by omega), wrap64 (x := 256 * a) (by omega) (by omega), wrap64 (x := 256 * a + b) (by omega) (by omega)]
  exact ⟨_, rfl, Int.tmod_nonneg _ (by omega), Int.tmod_lt_of_pos _ (by omega)⟩
end Go.Proofs.Ytnnpjblpiecfdaa.Fw
namespace Go.Proofs.Ytnnpjblpiecfdaa.Fw
open Go.RowKit
set_option linter.unusedVariables false
set_option linter.unusedSimpArgs false
def ownS : List Int := [20, 35, 15, 50, 95, 5, 10, 40, 80, 70]
theorem ownS_in {k : Nat} (hk : k < 10) : 5 ≤ ownS.getD k default ∧ ownS.getD k default ≤ 95 := by
  match k, hk with
  | 0, _ => decide
  | 1, _ => decide
  | 2, _ => decide
  | 3, _ => decide
  | 4, _ => decide
  | 5, _ => decide
  | 6, _ => decide
  | 7, _ => decide
  | 8, _ => decide
  | 9, _ => decide
theorem sp_data {k : Nat} (hk : k < 10) : ∃ x y, G.i_SpeciesData (names.getD k default) = some (ownS.getD k default, x, y, 0) := by
  match k, hk with
  | 0, _ => exact ⟨_, _, rfl⟩
  | 1, _ => exact ⟨_, _, rfl⟩
  | 2, _ => exact ⟨_, _, rfl⟩
  | 3, _ => exact ⟨_, _, rfl⟩
  | 4, _ => exact ⟨_, _, rfl⟩
  | 5, _ => exact ⟨_, _, rfl⟩
  | 6, _ => exact ⟨_, _, rfl⟩
  | 7, _ => exact ⟨_, _, rfl⟩
  | 8, _ => exact ⟨_, _, rfl⟩
  | 9, _ => exact ⟨_, _, rfl⟩
theorem tab_own {k : Nat} (hk : k < 10) (t : List (List Int)) (ht : G.s_l07Table = some t) : t.length = 10 ∧ (t.getD k default).length = 3 ∧ (t.getD k default).getD 0 default = ownS.getD k default := by
  have ht := Option.some.inj ht
  subst ht
  match k, hk with
  | 0, _ => decide
  | 1, _ => decide
  | 2, _ => decide
  | 3, _ => decide
  | 4, _ => decide
  | 5, _ => decide
  | 6, _ => decide
  | 7, _ => decide
  | 8, _ => decide
  | 9, _ => decide
/-- A veneer that is drawn. -/
structure VenR (v : TVeneer) (k : Nat) : Prop where
  lt : k < 10
  name : v.Species = names.getD k default
  sh : 0 ≤ v.Shade ∧ v.Shade ≤ 100
  own : v.Shade ≤ ownS.getD k default + 15 ∧ ownS.getD k default - 15 ≤ v.Shade
  gr : 0 ≤ v.Grain ∧ v.Grain ≤ 179
theorem inR_iffV {n lo hi : Int} : inR n lo hi = true ↔ lo ≤ n ∧ n ≤ hi := by unfold inR; simp
theorem v_ok {v : TVeneer} {k : Nat} (h : VenR v k) : G.i_ValidVeneer v.Species v.Shade v.Grain = some true := by
  obtain ⟨x, y, e⟩ := sp_data h.lt
  have ho := ownS_in h.lt
  have h1 := h.sh
  have h2 := h.own
  have h3 := h.gr
  have w1 : inR v.Shade 0 100 = true := inR_iffV.2 h1
  have w2 : inR (v.Shade - ownS.getD k default) (-15) 15 = true := inR_iffV.2 (by omega)
  have w3 : inR v.Grain 0 179 = true := inR_iffV.2 h3
  unfold G.i_ValidVeneer G.i_speciesShade
  rw [h.name, e]
  simp only [Option.bind_some, decide_true, cond_true, p_within, w1, w3]
  rw [wrap64 (by omega) (by omega), w2]
  rfl
theorem v_maxS (a b : Int) : G.s_l00Max a b = some (max a b) := by
  unfold G.s_l00Max
  by_cases h : b < a
  · rw [decide_eq_true h, cond_true, show max a b = a by omega]
  · rw [decide_eq_false h, cond_false, show max a b = b by omega]
theorem v_minS (a b : Int) : G.s_l00Min a b = some (min a b) := by
  unfold G.s_l00Min
  by_cases h : a < b
  · rw [decide_eq_true h, cond_true, show min a b = a by omega]
  · rw [decide_eq_false h, cond_false, show min a b = b by omega]
theorem p_l07Draw {c : List Int} (hc : bytesOk c) {m : Int} (hm : m ≤ 10000000000) {s : Tl00Src} (h : srcOk c m s) : ∃ s' v k, G.s_l07Draw s.code s.at_ s.seed = some (s', v) ∧ srcOk c (m + 8) s' ∧ VenR v k := by
  obtain ⟨s1, k, e1, k1, a1, b1⟩ := p_pick hc (m := m) (by omega) h 10 (by omega)
  obtain ⟨s2, d, e2, k2, a2, b2⟩ := p_pick hc (by omega) k1 21 (by omega)
  obtain ⟨s3, g, e3, k3, a3, b3⟩ := p_pick hc (by omega) k2 180 (by omega)
  obtain ⟨s4, gr, e4, k4, m4⟩ := p_among hc (by omega) k3 [g, g, 0, 90, 45] (by simp) (by simp)
  have c1 := b1 (by omega)
  have c2 := b2 (by omega)
  have c3 := b3 (by omega)
  obtain ⟨t, ht⟩ : ∃ t, G.s_l07Table = some t := ⟨_, rfl⟩
  obtain ⟨t1, t2, t3⟩ := tab_own (k := k.toNat) (by omega) t ht
  have ho := ownS_in (k := k.toNat) (by omega)
  have hn : G.s_l07Names = some names := rfl
  have hnl : names.length = 10 := by decide
  have hgr : 0 ≤ gr ∧ gr ≤ 179 := by
    simp only [List.mem_cons, List.not_mem_nil, or_false] at m4
    omega
  refine ⟨s4, ⟨names.getD k.toNat default, min 100 (max 0 (ownS.getD k.toNat default + d - 10)), gr⟩, k.toNat, ?_, k4.mono (by omega), by omega, rfl, by simp only; omega, by simp only; omega, hgr⟩
  unfold G.s_l07Draw
  simp only [Option.bind_some, e1, ht, hn, t1, t2, t3, hnl]
  rw [if_pos ⟨by omega, by omega⟩, if_pos ⟨by omega, by omega⟩, e2]
  simp only [Option.bind_some]
  rw [if_pos ⟨by omega, by omega⟩, wrap64 (x := ownS.getD k.toNat default + d) (by omega) (by omega), wrap64 (x := ownS.getD k.toNat default + d - 10) (by omega) (by omega), v_maxS, Option.bind_some, v_minS, Option.bind_some, e3]
  simp only [Option.bind_some, e4]
end Go.Proofs.Ytnnpjblpiecfdaa.Fw
namespace Go.Proofs.Ytnnpjblpiecfdaa.Fw
open Go.RowKit
set_option linter.unusedVariables false
set_option linter.unusedSimpArgs false
/-- A valid leaf, as it is drawn or cut. -/
structure LeafV (x : TLeaf) : Prop where
  r : LeafR x
  v : ∃ k, VenR x.Veneer k
  id : nameOk x.Id = true ∧ x.Id.size ≤ 100
  fl : nameOk x.Flitch = true ∧ x.Flitch.size ≤ 100
  no : 0 ≤ x.Number ∧ x.Number ≤ 999
theorem c_within (b : TBox) (w l : Int) (hw : 0 ≤ w ∧ w ≤ 20000) (hl : 0 ≤ l ∧ l ≤ 20000) : G.i_boxWithin b.X b.Y b.Width b.Length w l = some (boxB b w l) := by
  unfold G.i_boxWithin boxB
  simp only [p_within, Option.bind_some]
  cases h1 : inR b.X 0 w
  · rfl
  · have hx : 0 ≤ b.X ∧ b.X ≤ w := by unfold inR at h1; simpa using h1
    cases h2 : inR b.Y 0 l
    · rfl
    · have hy : 0 ≤ b.Y ∧ b.Y ≤ l := by unfold inR at h2; simpa using h2
      simp only [cond_true, Option.bind_some, Bool.true_and]
      rw [wrap64 (x := w - b.X) (by omega) (by omega), wrap64 (x := l - b.Y) (by omega) (by omega)]
      cases inR b.Width 1 (w - b.X) <;> rfl
theorem boxB_true {b : TBox} {w l : Int} (h : 0 ≤ b.X ∧ 0 ≤ b.Y ∧ 1 ≤ b.Width ∧ 1 ≤ b.Length ∧ b.X + b.Width ≤ w ∧ b.Y + b.Length ≤ l) : boxB b w l = true := by
  unfold boxB inR
  simp only [Bool.and_eq_true, decide_eq_true_eq]
  omega
theorem c_boxes (x : TLeaf) (hw : 0 ≤ x.Width ∧ x.Width ≤ 20000) (hl : 0 ≤ x.Length ∧ x.Length ≤ 20000) (hn : x.Defects.length ≤ 1000000000) : G.slices_ContainsFunc_i_Box_i_Box_1_i_ValidLeaf_1 x.Defects x.Id x.Flitch x.Number x.Veneer.Species x.Veneer.Shade x.Veneer.Grain x.Width x.Length x.Defects = some (x.Defects.any fun b => !(boxB b x.Width x.Length)) := by
  unfold G.slices_ContainsFunc_i_Box_i_Box_1_i_ValidLeaf_1 G.slices_IndexFunc_i_Box_i_Box_1_i_ValidLeaf_1
  refine find_loop x.Defects (fun b => !(boxB b x.Width x.Length)) hn _ ?_ ?_
  · intro i hi
    simp only [G.slices_IndexFunc_i_Box_i_Box_1_i_ValidLeaf_1.s0, G.i_ValidLeaf_1, Int.toNat_natCast]
    rw [decide_eq_true (by omega), cond_true, if_pos ⟨by omega, by omega⟩, c_within _ _ _ hw hl, wrap64 (by omega) (by omega)]
    simp only [Option.bind_some]
    cases boxB (x.Defects.getD i default) x.Width x.Length <;> rfl
  · simp only [G.slices_IndexFunc_i_Box_i_Box_1_i_ValidLeaf_1.s0]
    rw [decide_eq_false (by omega), cond_false]
theorem leaf_ok {x : TLeaf} (h : LeafV x) : G.i_ValidLeaf x.Id x.Flitch x.Number x.Veneer.Species x.Veneer.Shade x.Veneer.Grain x.Width x.Length x.Defects = some true := by
  obtain ⟨k, hv⟩ := h.v
  have hw := h.r.w
  have hl := h.r.l
  have hn := h.r.n
  have w1 : inR x.Number 0 999 = true := inR_iff.2 h.no
  have w2 : inR x.Width 10 20000 = true := inR_iff.2 hw
  have w3 : inR x.Length 10 20000 = true := inR_iff.2 hl
  have hany : (x.Defects.any fun b => !(boxB b x.Width x.Length)) = false := by
    rw [List.any_eq_false]
    intro b hb
    rw [boxB_true (h.r.d b hb)]
    decide
  unfold G.i_ValidLeaf
  rw [p_IsName _ (by have := h.id.2; omega), p_IsName _ (by have := h.fl.2; omega), h.id.1, h.fl.1, v_ok hv]
  simp only [p_within, Option.bind_some, w1, w2, w3, cond_true, cond_false, Bool.not_true]
  rw [decide_eq_false (show ¬ (6 : Int) < ((x.Defects.length : Nat) : Int) by omega), c_boxes x ⟨by omega, by omega⟩ ⟨by omega, by omega⟩ (by omega), hany]
  rfl
theorem c_common (b a : TBox) (ha : inBox a) (hb : inBox b) : ∃ p, G.i_common b.X b.Y b.Width b.Length a.X a.Y a.Width a.Length = some (p, meetI b a.X a.Y a.Width a.Length) := by
  unfold inBox at ha hb
  unfold G.i_common meetI
  rw [wrap64 (x := b.X + b.Width) (by omega) (by omega), wrap64 (x := a.X + a.Width) (by omega) (by omega), wrap64 (x := b.Y + b.Length) (by omega) (by omega), wrap64 (x := a.Y + a.Length) (by omega) (by omega)]
  rw [wrap64 (x := min (b.X + b.Width) (a.X + a.Width) - max b.X a.X) (by omega) (by omega), wrap64 (x := min (b.Y + b.Length) (a.Y + a.Length) - max b.Y a.Y) (by omega) (by omega)]
  by_cases c1 : 0 < min (b.X + b.Width) (a.X + a.Width) - max b.X a.X
  · rw [decide_eq_true c1]
    exact ⟨_, rfl⟩
  · rw [decide_eq_false c1]
    exact ⟨_, rfl⟩
theorem c_meet (b a : TBox) (ha : inBox a) (hb : inBox b) : G.i_boxesMeet b.X b.Y b.Width b.Length a.X a.Y a.Width a.Length = some (meetI b a.X a.Y a.Width a.Length) := by
  obtain ⟨p, e⟩ := c_common b a ha hb
  rw [G.i_boxesMeet, e]; rfl
theorem meetI_comm (a b : TBox) : meetI a b.X b.Y b.Width b.Length = meetI b a.X a.Y a.Width a.Length := by
  rw [Bool.eq_iff_iff, meetI_iff, meetI_iff]; omega
theorem c_contains (ds : List TBox) (a : TBox) (ha : inBox a) (hd : ∀ b ∈ ds, inBox b) (hn : ds.length ≤ 1000000000) :
    G.slices_ContainsFunc_i_Box_i_Box_1_i_LargestClear_1 ds a.X a.Y a.Width a.Length = some (ds.any fun b => meetI b a.X a.Y a.Width a.Length) := by
  unfold G.slices_ContainsFunc_i_Box_i_Box_1_i_LargestClear_1 G.slices_IndexFunc_i_Box_i_Box_1_i_LargestClear_1
  refine find_loop ds (fun b => meetI b a.X a.Y a.Width a.Length) hn _ ?_ ?_
  · intro i hi
    simp only [G.slices_IndexFunc_i_Box_i_Box_1_i_LargestClear_1.s0, G.i_LargestClear_1, Int.toNat_natCast]
    rw [decide_eq_true (by omega), cond_true, if_pos ⟨by omega, by omega⟩, c_meet _ a ha (hd _ (getD_mem hi)), wrap64 (by omega) (by omega)]
    simp only [Option.bind_some]
    cases meetI (ds.getD i default) a.X a.Y a.Width a.Length <;> rfl
  · simp only [G.slices_IndexFunc_i_Box_i_Box_1_i_LargestClear_1.s0]
    rw [decide_eq_false (by omega), cond_false]
theorem leafR_in {x : TLeaf} (h : LeafR x) : ∀ b ∈ x.Defects, inBox b := fun b hb => by
  have := h.d b hb; have := h.w; have := h.l
  unfold inBox; omega
/-- The usable area, by cuts in order. -/
theorem c_usable {x : TLeaf} (hV : LeafV x) : ∃ xs ys : List Int, G.i_UsableArea x.Id x.Flitch x.Number x.Veneer.Species x.Veneer.Shade x.Veneer.Grain x.Width x.Length x.Defects = some (areaU meetI x.Defects xs ys, 0) ∧ xs.Pairwise (· ≤ ·) ∧ ys.Pairwise (· ≤ ·) ∧
    (∀ z, z ∈ xs ↔ cutP x.Defects (·.X) (fun b => b.X + b.Width) x.Width x.Defects.length z) ∧ (∀ z, z ∈ ys ↔ cutP x.Defects (·.Y) (fun b => b.Y + b.Length) x.Length x.Defects.length z) := by
  have h := hV.r
  obtain ⟨xs, ys, c1, c2, c3, c4, c5⟩ := i_cuts x h
  have hx' : ∀ z ∈ sortI xs, 0 ≤ z ∧ z ≤ 20000 := fun z hz => cutP_le x h ((c4 z).1 ((mem_sortI z xs).1 hz))
  have hy' : ∀ z ∈ sortI ys, 0 ≤ z ∧ z ≤ 20000 := fun z hz => cutP_leY x h ((c5 z).1 ((mem_sortI z ys).1 hz))
  have m1 : 1 ≤ xs.length := List.length_pos_of_mem ((c4 0).2 (.inl rfl))
  have m2 : 1 ≤ ys.length := List.length_pos_of_mem ((c5 0).2 (.inl rfl))
  refine ⟨sortI xs, sortI ys, ?_, sortI_le xs, sortI_le ys, fun z => by rw [mem_sortI, c4], fun z => by rw [mem_sortI, c5]⟩
  unfold G.i_UsableArea
  rw [leaf_ok hV, Option.bind_some, cond_true, c1]
  simp only [jn, Option.bind_some, Sum.elim_inl, G.slices_Sort_int64_int64]
  rw [if_pos (show xs.length < 4611686018427387904 by omega), if_pos (show ys.length < 4611686018427387904 by omega)]
  simp only [Option.bind_some, sortI_len, if_true]
  rw [i_usable x.Defects (sortI xs) (sortI ys) hx' hy' (sortI_le xs) (sortI_le ys) (by rw [sortI_len]; omega) (by rw [sortI_len]; omega) (by rw [sortI_len]; omega) (by rw [sortI_len]; omega) (leafR_in h) h.n]
  simp only [Option.bind_some, Sum.elim_inl]
/-! ### the greatest clear box -/
theorem c_cmp (a b : Int) : ∃ q, G.cmp_Compare_int64 a b = some q := by
  unfold G.cmp_Compare_int64 G.cmp_isNaN_int64
  simp only [Option.bind_some, decide_true, Bool.not_true, cond_false]
  cases decide (a < b)
  · cases decide (b < a)
    · exact ⟨_, rfl⟩
    · exact ⟨_, rfl⟩
  · exact ⟨_, rfl⟩
theorem c_cmpBoxes (a b c d a' b' c' d' : Int) : ∃ q, G.i_compareBoxes a b c d a' b' c' d' = some q := by
  have h := iter_go (A := Unit) (step := G.slices_Compare_int64_int64.s0 [a, b, c, d] [a', b', c', d']) (n := 4) (g := fun _ => ()) (fun i _ => (i : Int)) (fun _ _ => True) (fun _ => True) ?_ ?_ 4 0 () (by omega) trivial
  · unfold G.i_compareBoxes G.slices_Compare_int64_int64
    rw [show ((0 : Nat) : Int) = 0 from rfl] at h
    rcases h with ⟨_, _, h⟩ | ⟨r, _, h⟩
    · rw [h]; exact ⟨_, rfl⟩
    · rw [h]; exact ⟨_, rfl⟩
  · intro i _ hi _
    simp only [G.slices_Compare_int64_int64.s0, List.length_cons, List.length_nil]
    obtain ⟨q, e⟩ := c_cmp ([a, b, c, d].getD (i : Int).toNat default) ([a', b', c', d'].getD (i : Int).toNat default)
    rw [decide_eq_true (by omega), cond_true, if_pos ⟨by omega, by omega⟩, decide_eq_false (by omega), cond_false, if_pos ⟨by omega, by omega⟩, e, Option.bind_some, wrap64 (by omega) (by omega)]
    cases decide (q = 0)
    · exact .inr ⟨q, rfl, trivial⟩
    · exact .inl ⟨(), rfl, trivial⟩
  · intro _ _
    rfl
abbrev B4 := Int × Int × Int × Int
theorem clr_loop {R : Type} (Ls : List Int) (Good : B4 → Prop) (C : Int → Prop) (step : (Int × Int × Int × Int × Int) → Option ((Int × Int × Int × Int × Int) ⊕ (B4 ⊕ R)))
    (hb : ∀ (i : Nat) (a : B4), i < Ls.length → Good a → ∃ a' : B4, step (a.1, a.2.1, a.2.2.1, a.2.2.2, (i : Int)) = some (.inl (a'.1, a'.2.1, a'.2.2.1, a'.2.2.2, ((i + 1 : Nat) : Int))) ∧ Good a' ∧ (a.2.2.1 ≠ 0 → a'.2.2.1 ≠ 0) ∧ (C (Ls.getD i default) → a'.2.2.1 ≠ 0))
    (he : ∀ a : B4, step (a.1, a.2.1, a.2.2.1, a.2.2.2, (Ls.length : Int)) = some (.inr (.inl a))) (a : B4) (h : Good a) :
    ∃ a' : B4, iter step (a.1, a.2.1, a.2.2.1, a.2.2.2, (0 : Int)) = some (.inl a') ∧ Good a' ∧ (a.2.2.1 ≠ 0 → a'.2.2.1 ≠ 0) ∧ ((∃ z ∈ Ls, C z) → a'.2.2.1 ≠ 0) := by
  have hh := iter_go (step := step) (n := Ls.length) (A := B4) (g := fun x => x) (fun i b => (b.1, b.2.1, b.2.2.1, b.2.2.2, (i : Int))) (fun i b => Good b ∧ (a.2.2.1 ≠ 0 → b.2.2.1 ≠ 0) ∧ ∀ j, j < i → C (Ls.getD j default) → b.2.2.1 ≠ 0) (fun _ => False) ?_ ?_ Ls.length 0 a (by omega) ⟨h, fun h => h, fun j hj => by omega⟩
  · rcases hh with ⟨b, ⟨h1, h2, h3⟩, h4⟩ | ⟨r, hr, _⟩
    · refine ⟨b, h4, h1, h2, ?_⟩
      rintro ⟨z, hz, hC⟩
      obtain ⟨i, hi, rfl⟩ := List.mem_iff_getElem.1 hz
      exact h3 i hi (by rw [getD_eq hi]; exact hC)
    · exact hr.elim
  · rintro i b hi ⟨h1, h2, h3⟩
    obtain ⟨b', e, g1, g2, g3⟩ := hb i b hi h1
    refine .inl ⟨b', e, g1, fun h => g2 (h2 h), fun j hj hC => ?_⟩
    by_cases c : j = i
    · subst c; exact g3 hC
    · exact g2 (h3 j (by omega) hC)
  · rintro b _
    exact he b
theorem take_snocC {α β : Type} [Inhabited α] (f : α → β) (ds : List α) {i : Nat} (hi : i < ds.length) : (ds.take i).map f ++ [f (ds.getD i default)] = (ds.take (i + 1)).map f := by
  rw [List.take_add_one, List.map_append, getD_eq hi, List.getElem?_eq_getElem hi]; rfl
def leftsC (ds : List TBox) : List Int := 0 :: ds.map fun b => b.X + b.Width
def rightsC (W : Int) (ds : List TBox) : List Int := W :: ds.map fun b => b.X
def lowsC (ds : List TBox) : List Int := 0 :: ds.map fun b => b.Y + b.Length
def highsC (L : Int) (ds : List TBox) : List Int := L :: ds.map fun b => b.Y
theorem c_sides (x : TLeaf) (h : LeafR x) : iter (G.i_LargestClear.s0 x.Defects) (([(0 : Int)] : List Int), ([x.Width] : List Int), ([(0 : Int)] : List Int), ([x.Length] : List Int), (0 : Int)) = some (.inl (leftsC x.Defects, rightsC x.Width x.Defects, lowsC x.Defects, highsC x.Length x.Defects)) := by
  have hn := h.n
  have hw := h.w
  have hl := h.l
  have hh := iter_go (step := G.i_LargestClear.s0 x.Defects) (n := x.Defects.length) (A := Unit) (g := fun _ => (leftsC x.Defects, rightsC x.Width x.Defects, lowsC x.Defects, highsC x.Length x.Defects))
    (fun i _ => (leftsC (x.Defects.take i), rightsC x.Width (x.Defects.take i), lowsC (x.Defects.take i), highsC x.Length (x.Defects.take i), (i : Int))) (fun _ _ => True) (fun _ => False) ?_ ?_ x.Defects.length 0 () (by omega) trivial
  · rcases hh with ⟨_, _, h⟩ | ⟨r, hr, _⟩
    · exact h
    · exact hr.elim
  · rintro i _ hi _
    have hb := h.d _ (getD_mem hi)
    have e1 : ∀ f : TBox → Int, ((x.Defects.take i).map f).length = i := fun f => by simp; omega
    have f1 := take_snocC (fun b : TBox => b.X + b.Width) x.Defects hi
    have f2 := take_snocC (fun b : TBox => b.X) x.Defects hi
    have f3 := take_snocC (fun b : TBox => b.Y + b.Length) x.Defects hi
    have f4 := take_snocC (fun b : TBox => b.Y) x.Defects hi
    simp only [G.i_LargestClear.s0, leftsC, rightsC, lowsC, highsC, Int.toNat_natCast, List.length_cons, e1]
    rw [decide_eq_true (by omega), cond_true, if_pos ⟨by omega, by omega⟩, if_pos ⟨by omega, by omega⟩, if_pos ⟨by omega, by omega⟩, if_pos ⟨by omega, by omega⟩, if_pos ⟨by omega, by omega⟩, wrap64 (x := (x.Defects.getD i default).X + (x.Defects.getD i default).Width) (by omega) (by omega), wrap64 (x := (x.Defects.getD i default).Y + (x.Defects.getD i default).Length) (by omega) (by omega), wrap64 (by omega) (by omega)]
    refine .inl ⟨(), ?_, trivial⟩
    simp only [List.cons_append, f1, f2, f3, f4]
    rfl
  · rintro _ _
    simp only [G.i_LargestClear.s0]
    rw [decide_eq_false (by omega), cond_false, List.take_length]
/-- A box without defects between sides. -/
def Cand (ds : List TBox) (W L x r y h : Int) : Prop := 1 ≤ r - x ∧ 1 ≤ h - y ∧ (ds.any fun e => meetI e x y (r - x) (h - y)) = false
def GoodB (ds : List TBox) (W L : Int) (b : B4) : Prop := b = (0, 0, 0, 0) ∨ b.1 ∈ leftsC ds ∧ b.1 + b.2.2.1 ∈ rightsC W ds ∧ b.2.1 ∈ lowsC ds ∧ b.2.1 + b.2.2.2 ∈ highsC L ds ∧ 1 ≤ b.2.2.1 ∧ 1 ≤ b.2.2.2 ∧ (ds.any fun e => meetI e b.1 b.2.1 b.2.2.1 b.2.2.2) = false
theorem sides_in {x : TLeaf} (h : LeafR x) : (∀ z ∈ leftsC x.Defects, 0 ≤ z ∧ z ≤ x.Width) ∧ (∀ z ∈ rightsC x.Width x.Defects, 0 ≤ z ∧ z ≤ x.Width) ∧ (∀ z ∈ lowsC x.Defects, 0 ≤ z ∧ z ≤ x.Length) ∧ (∀ z ∈ highsC x.Length x.Defects, 0 ≤ z ∧ z ≤ x.Length) := by
  have hw := h.w
  have hl := h.l
  refine ⟨?_, ?_, ?_, ?_⟩ <;> (intro z hz; rcases List.mem_cons.1 hz with e | hz; omega; obtain ⟨b, hb, rfl⟩ := List.mem_map.1 hz; have := h.d b hb; omega)
theorem c_largest {x : TLeaf} (hV : LeafV x) : ∃ b : B4, GoodB x.Defects x.Width x.Length b ∧ G.i_LargestClear x.Id x.Flitch x.Number x.Veneer.Species x.Veneer.Shade x.Veneer.Grain x.Width x.Length x.Defects = (if b.2.2.1 = 0 then some (⟨0, 0, 0, 0⟩, 3) else some (⟨b.1, b.2.1, b.2.2.1, b.2.2.2⟩, 0)) ∧
    ((∃ z1 ∈ leftsC x.Defects, ∃ z2 ∈ rightsC x.Width x.Defects, ∃ z3 ∈ lowsC x.Defects, ∃ z4 ∈ highsC x.Length x.Defects, Cand x.Defects x.Width x.Length z1 z2 z3 z4) → b.2.2.1 ≠ 0) := by
  have h := hV.r
  have hn := h.n
  have hw := h.w
  have hl := h.l
  obtain ⟨s1, s2, s3, s4⟩ := sides_in h
  have n1 : (leftsC x.Defects).length ≤ 7 := by simp [leftsC]; omega
  have n2 : (rightsC x.Width x.Defects).length ≤ 7 := by simp [rightsC]; omega
  have n3 : (lowsC x.Defects).length ≤ 7 := by simp [lowsC]; omega
  have n4 : (highsC x.Length x.Defects).length ≤ 7 := by simp [highsC]; omega
  generalize hA : leftsC x.Defects = Ls at *
  generalize hB : rightsC x.Width x.Defects = Rs at *
  generalize hC : lowsC x.Defects = Lo at *
  generalize hD : highsC x.Length x.Defects = Hi at *
  have hsd := c_sides x h
  rw [hA, hB, hC, hD] at hsd
  have L4 : ∀ (i j k : Nat), i < Ls.length → j < Rs.length → k < Lo.length → ∀ a : B4, GoodB x.Defects x.Width x.Length a → ∃ a' : B4, iter (G.i_LargestClear.s4 x.Defects (Ls, Rs, Lo, Hi) (i : Int) (j : Int) (k : Int)) (a.1, a.2.1, a.2.2.1, a.2.2.2, (0 : Int)) = some (.inl a') ∧ GoodB x.Defects x.Width x.Length a' ∧ (a.2.2.1 ≠ 0 → a'.2.2.1 ≠ 0) ∧ ((∃ z ∈ Hi, Cand x.Defects x.Width x.Length (Ls.getD i default) (Rs.getD j default) (Lo.getD k default) z) → a'.2.2.1 ≠ 0) := by
    intro i j k hi hj hk a ha
    refine clr_loop Hi (GoodB x.Defects x.Width x.Length) _ _ ?_ ?_ a ha
    · rintro m ⟨b1, b2, b3, b4⟩ hm hg
      have m1 := getD_mem hi
      have m2 := getD_mem hj
      have m3 := getD_mem hk
      have m4 := getD_mem hm
      have g1 := s1 _ m1
      have g2 := s2 _ m2
      have g3 := s3 _ m3
      have g4 := s4 _ m4
      obtain ⟨xx, exx⟩ : ∃ z, Ls.getD i default = z := ⟨_, rfl⟩
      obtain ⟨rr, err⟩ : ∃ z, Rs.getD j default = z := ⟨_, rfl⟩
      obtain ⟨yy, eyy⟩ : ∃ z, Lo.getD k default = z := ⟨_, rfl⟩
      obtain ⟨hh, ehh⟩ : ∃ z, Hi.getD m default = z := ⟨_, rfl⟩
      simp only [G.i_LargestClear.s4, Int.toNat_natCast, exx, err, eyy, ehh]
      rw [exx] at m1 g1
      rw [err] at m2 g2
      rw [eyy] at m3 g3
      rw [ehh] at m4 g4
      rw [decide_eq_true (show (m : Int) < ((Hi.length : Nat) : Int) by omega), cond_true, if_pos ⟨by omega, by omega⟩]
      rw [wrap64 (x := rr - xx) (by omega) (by omega), wrap64 (x := hh - yy) (by omega) (by omega), wrap64 (x := (m : Int) + 1) (by omega) (by omega)]
      by_cases c1 : rr - xx < 1
      · rw [decide_eq_true c1]
        exact ⟨(b1, b2, b3, b4), rfl, hg, fun h => h, fun hc => by have := hc.1; omega⟩
      · rw [decide_eq_false c1]
        by_cases c2 : hh - yy < 1
        · rw [decide_eq_true c2]
          exact ⟨(b1, b2, b3, b4), rfl, hg, fun h => h, fun hc => by have := hc.2.1; omega⟩
        · rw [decide_eq_false c2]
          simp only [cond_false, Option.bind_some]
          rw [c_contains x.Defects ⟨xx, yy, rr - xx, hh - yy⟩ ⟨by simp only; omega, by simp only; omega, by simp only; omega, by simp only; omega, by simp only; omega, by simp only; omega, by simp only; omega, by simp only; omega⟩ (leafR_in h) (by omega)]
          simp only [Option.bind_some]
          cases hany : x.Defects.any fun b => meetI b xx yy (rr - xx) (hh - yy) with
          | true => exact ⟨(b1, b2, b3, b4), rfl, hg, fun h => h, fun hc => by have := hc.2.2; rw [hany] at this; cases this⟩
          | false =>
            simp only [cond_false]
            have hcand : GoodB x.Defects x.Width x.Length (xx, yy, rr - xx, hh - yy) := by
              refine .inr ⟨by rw [hA]; exact m1, ?_, by rw [hC]; exact m3, ?_, by simp only; omega, by simp only; omega, hany⟩
              · simp only; rw [hB, show xx + (rr - xx) = rr by omega]; exact m2
              · simp only; rw [hD, show yy + (hh - yy) = hh by omega]; exact m4
            have hba : 0 ≤ b3 ∧ b3 ≤ 20000 ∧ 0 ≤ b4 ∧ b4 ≤ 20000 := by
              rcases hg with e | ⟨q1, q2, q3, q4, q5, q6, _⟩
              · simp only [Prod.mk.injEq] at e; omega
              · simp only at q1 q2 q3 q4 q5 q6
                rw [hA] at q1; rw [hB] at q2; rw [hC] at q3; rw [hD] at q4
                have := s1 _ q1; have := s2 _ q2; have := s3 _ q3; have := s4 _ q4
                omega
            have ar1 := area_le (p := rr - xx) (q := hh - yy) (by omega) (by omega) (by omega) (by omega)
            have ar2 := area_le (p := b3) (q := b4) hba.1 hba.2.1 hba.2.2.1 hba.2.2.2
            have ar3 : 1 ≤ (rr - xx) * (hh - yy) := by
              have := Int.mul_le_mul (show (1 : Int) ≤ rr - xx by omega) (show (1 : Int) ≤ hh - yy by omega) (by omega) (by omega)
              omega
            rw [wrap64 (x := (rr - xx) * (hh - yy)) (by omega) (by omega), wrap64 (x := b3 * b4) (by omega) (by omega), wrap64 (x := (rr - xx) * (hh - yy) - b3 * b4) (by omega) (by omega)]
            have keep : 0 < b3 * b4 → b3 ≠ 0 := fun hp e => by rw [e, Int.zero_mul] at hp; omega
            by_cases c3 : 0 < (rr - xx) * (hh - yy) - b3 * b4
            · rw [decide_eq_true c3]
              exact ⟨(xx, yy, rr - xx, hh - yy), rfl, hcand, fun _ => by simp only; omega, fun _ => by simp only; omega⟩
            · rw [decide_eq_false c3]
              have kp := keep (by omega)
              by_cases c4 : (rr - xx) * (hh - yy) - b3 * b4 = 0
              · rw [decide_eq_true c4]
                obtain ⟨q, hq⟩ := c_cmpBoxes xx yy (rr - xx) (hh - yy) b1 b2 b3 b4
                simp only [cond_false, cond_true, hq, Option.bind_some]
                cases decide (q < 0)
                · exact ⟨(b1, b2, b3, b4), rfl, hg, fun h => h, fun _ => kp⟩
                · exact ⟨(xx, yy, rr - xx, hh - yy), rfl, hcand, fun _ => by simp only; omega, fun _ => by simp only; omega⟩
              · rw [decide_eq_false c4]
                exact ⟨(b1, b2, b3, b4), rfl, hg, fun h => h, fun _ => kp⟩
    · rintro a
      simp only [G.i_LargestClear.s4]
      rw [decide_eq_false (by omega), cond_false]
  have L3 : ∀ (i j : Nat), i < Ls.length → j < Rs.length → ∀ a : B4, GoodB x.Defects x.Width x.Length a → ∃ a' : B4, iter (G.i_LargestClear.s3 x.Defects (Ls, Rs, Lo, Hi) (i : Int) (j : Int)) (a.1, a.2.1, a.2.2.1, a.2.2.2, (0 : Int)) = some (.inl a') ∧ GoodB x.Defects x.Width x.Length a' ∧ (a.2.2.1 ≠ 0 → a'.2.2.1 ≠ 0) ∧ ((∃ y ∈ Lo, ∃ z ∈ Hi, Cand x.Defects x.Width x.Length (Ls.getD i default) (Rs.getD j default) y z) → a'.2.2.1 ≠ 0) := by
    intro i j hi hj a ha
    refine clr_loop Lo (GoodB x.Defects x.Width x.Length) _ _ ?_ ?_ a ha
    · rintro k b hk hg
      obtain ⟨a', e, h1, h2, h3⟩ := L4 i j k hi hj hk b hg
      refine ⟨a', ?_, h1, h2, h3⟩
      simp only [G.i_LargestClear.s3]
      rw [decide_eq_true (by omega), cond_true, if_pos ⟨by omega, by omega⟩, e, wrap64 (x := (k : Int) + 1) (by omega) (by omega)]
      rfl
    · rintro a
      simp only [G.i_LargestClear.s3]
      rw [decide_eq_false (by omega), cond_false]
  have L2 : ∀ (i : Nat), i < Ls.length → ∀ a : B4, GoodB x.Defects x.Width x.Length a → ∃ a' : B4, iter (G.i_LargestClear.s2 x.Defects (Ls, Rs, Lo, Hi) (i : Int)) (a.1, a.2.1, a.2.2.1, a.2.2.2, (0 : Int)) = some (.inl a') ∧ GoodB x.Defects x.Width x.Length a' ∧ (a.2.2.1 ≠ 0 → a'.2.2.1 ≠ 0) ∧ ((∃ r ∈ Rs, ∃ y ∈ Lo, ∃ z ∈ Hi, Cand x.Defects x.Width x.Length (Ls.getD i default) r y z) → a'.2.2.1 ≠ 0) := by
    intro i hi a ha
    refine clr_loop Rs (GoodB x.Defects x.Width x.Length) _ _ ?_ ?_ a ha
    · rintro k b hk hg
      obtain ⟨a', e, h1, h2, h3⟩ := L3 i k hi hk b hg
      refine ⟨a', ?_, h1, h2, h3⟩
      simp only [G.i_LargestClear.s2]
      rw [decide_eq_true (by omega), cond_true, if_pos ⟨by omega, by omega⟩, e, wrap64 (x := (k : Int) + 1) (by omega) (by omega)]
      rfl
    · rintro a
      simp only [G.i_LargestClear.s2]
      rw [decide_eq_false (by omega), cond_false]
  have L1 := clr_loop Ls (GoodB x.Defects x.Width x.Length) (fun l => ∃ r ∈ Rs, ∃ y ∈ Lo, ∃ z ∈ Hi, Cand x.Defects x.Width x.Length l r y z) (G.i_LargestClear.s1 x.Defects (Ls, Rs, Lo, Hi)) ?_ ?_ (0, 0, 0, 0) (.inl rfl)
  · obtain ⟨b, e, h1, h2, h3⟩ := L1
    refine ⟨b, h1, ?_, h3⟩
    unfold G.i_LargestClear
    rw [leaf_ok hV, Option.bind_some, cond_true, hsd]
    simp only [jn, Option.bind_some, Sum.elim_inl]
    rw [show iter (G.i_LargestClear.s1 x.Defects (Ls, Rs, Lo, Hi)) ((0 : Int), (0 : Int), (0 : Int), (0 : Int), (0 : Int)) = _ from e]
    simp only [Option.bind_some, Sum.elim_inl]
    by_cases c : b.2.2.1 = 0
    · rw [decide_eq_true c, if_pos c]; rfl
    · rw [decide_eq_false c, if_neg c]; rfl
  · rintro k b hk hg
    obtain ⟨a', e, h1, h2, h3⟩ := L2 k hk b hg
    refine ⟨a', ?_, h1, h2, h3⟩
    simp only [G.i_LargestClear.s1]
    rw [decide_eq_true (by omega), cond_true, if_pos ⟨by omega, by omega⟩, e, wrap64 (x := (k : Int) + 1) (by omega) (by omega)]
    rfl
  · rintro a
    simp only [G.i_LargestClear.s1]
    rw [decide_eq_false (by omega), cond_false]
end Go.Proofs.Ytnnpjblpiecfdaa.Fw
namespace Go.Proofs.Ytnnpjblpiecfdaa.Fw
open Go.RowKit
set_option linter.unusedVariables false
set_option linter.unusedSimpArgs false
def boxIn (b : TBox) (w l : Int) : Prop := 0 ≤ b.X ∧ 0 ≤ b.Y ∧ 1 ≤ b.Width ∧ 1 ≤ b.Length ∧ b.X + b.Width ≤ w ∧ b.Y + b.Length ≤ l
theorem p_l09DrawBox {c : List Int} (hc : bytesOk c) {m : Int} (hm : m ≤ 1000000000) {s : Tl00Src} (h : srcOk c m s) (w l : Int) (hw : 100 ≤ w ∧ w ≤ 1000) (hl : 100 ≤ l ∧ l ≤ 1000) :
    ∃ s' b, G.s_l09DrawBox s.code s.at_ s.seed w l = some (s', b) ∧ srcOk c (m + 8) s' ∧ boxIn b w l := by
  obtain ⟨s1, x, e1, k1, a1, b1⟩ := p_pick hc (m := m) (by omega) h (w - 2) (by omega)
  obtain ⟨s2, y, e2, k2, a2, b2⟩ := p_pick hc (m := m + 2) (by omega) k1 (l - 2) (by omega)
  obtain ⟨s3, p, e3, k3, a3, b3⟩ := p_pick hc (m := m + 2 + 2) (by omega) k2 (min 60 (w - x)) (by omega)
  obtain ⟨s4, q, e4, k4, a4, b4⟩ := p_pick hc (m := m + 2 + 2 + 2) (by omega) k3 (min 60 (l - y)) (by omega)
  have := b1 (by omega)
  have := b2 (by omega)
  have := b3 (by omega)
  have := b4 (by omega)
  unfold G.s_l09DrawBox
  rw [wrap64 (x := w - 2) (by omega) (by omega), wrap64 (x := l - 2) (by omega) (by omega), e1, Option.bind_some, e2, Option.bind_some]
  simp only []
  rw [wrap64 (x := w - x) (by omega) (by omega), wrap64 (x := l - y) (by omega) (by omega), v_minS, Option.bind_some, e3, Option.bind_some, v_minS, Option.bind_some, e4, Option.bind_some]
  simp only []
  rw [wrap64 (x := 1 + p) (by omega) (by omega), wrap64 (x := 1 + q) (by omega) (by omega)]
  refine ⟨_, _, rfl, k4.mono (by omega), ?_⟩
  unfold boxIn
  simp only
  omega
theorem p_l09DrawOne {c : List Int} (hc : bytesOk c) {m : Int} (hm : m ≤ 100000000) {s : Tl00Src} (h : srcOk c m s) (id : ByteArray) (hid : nameOk id = true ∧ id.size ≤ 100) : ∃ s' x, G.s_l09DrawOne s.code s.at_ s.seed id = some (s', x) ∧ srcOk c (m + 60) s' ∧ LeafV x ∧ x.Id = id ∧ x.Width ≤ 1000 ∧ x.Length ≤ 1000 ∧ x.Defects.length ≤ 3 := by
  obtain ⟨s1, f, e1, k1, m1⟩ := p_text hc (m := m) (by omega) h [⟨#[102, 49]⟩, ⟨#[102, 50]⟩] (by simp) (by simp)
  obtain ⟨s2, no, e2, k2, a2, b2⟩ := p_pick hc (m := m + 2) (by omega) k1 20 (by omega)
  obtain ⟨s3, v, k, e3, k3, hv⟩ := p_l07Draw hc (m := m + 2 + 2) (by omega) k2
  obtain ⟨s4, w, e4, k4, a4, b4⟩ := p_pick hc (m := m + 2 + 2 + 8) (by omega) k3 900 (by omega)
  obtain ⟨s5, l, e5, k5, a5, b5⟩ := p_pick hc (m := m + 2 + 2 + 8 + 2) (by omega) k4 900 (by omega)
  obtain ⟨s6, n, e6, k6, a6, b6⟩ := p_pick hc (m := m + 2 + 2 + 8 + 2 + 2) (by omega) k5 4 (by omega)
  have := b2 (by omega)
  have := b4 (by omega)
  have := b5 (by omega)
  have := b6 (by omega)
  have hf : nameOk f = true ∧ f.size ≤ 100 := by
    simp only [List.mem_cons, List.not_mem_nil, or_false] at m1
    rcases m1 with rfl | rfl <;> decide
  obtain ⟨nn, rfl⟩ : ∃ nn : Nat, n = (nn : Int) := ⟨n.toNat, by omega⟩
  have hh := iter_go (step := G.s_l09DrawOne.s0 (s4, w) (s5, l)) (n := nn) (A := Tl00Src × List TBox) (g := fun a => (a.1.code, a.1.at_, a.1.seed, a.2)) (fun i a => (a.1.code, a.1.at_, a.1.seed, a.2, (nn : Int) - (i : Int)))
    (fun i a => srcOk c (m + 18 + 8 * i) a.1 ∧ a.2.length = i ∧ ∀ b ∈ a.2, boxIn b (100 + w) (100 + l)) (fun _ => False) ?_ ?_ nn 0 (s6, []) (by omega) ⟨k6.mono (by omega), rfl, by simp⟩
  · rcases hh with ⟨⟨s7, ds⟩, ⟨k7, n7, d7⟩, h7⟩ | ⟨r, hr, _⟩
    · simp only at k7 n7 d7
      rw [show (nn : Int) - ((0 : Nat) : Int) = (nn : Int) by omega] at h7
      simp only [G.s_l09DrawOne, e1, Option.bind_some, e2, e3, e4, e5, e6]
      rw [show iter (G.s_l09DrawOne.s0 (s4, w) (s5, l)) (s6.code, s6.at_, s6.seed, [], (nn : Int)) = _ from h7]
      simp only [jn, Option.bind_some, Sum.elim_inl]
      rw [wrap64 (x := 100 + w) (by omega) (by omega), wrap64 (x := 100 + l) (by omega) (by omega)]
      refine ⟨_, _, rfl, k7.mono (by omega), ⟨⟨by simp only; omega, by simp only; omega, by simp only; omega, fun b hb => d7 b hb, hv.sh, hv.gr⟩, ⟨k, hv⟩, hid, hf, by simp only; omega⟩, rfl, by simp only; omega, by simp only; omega, by simp only; omega⟩
    · exact hr.elim
  · rintro i ⟨s7, ds⟩ hi ⟨k7, n7, d7⟩
    simp only at k7 n7 d7
    obtain ⟨s8, b, e8, k8, hb⟩ := p_l09DrawBox hc (by omega) k7 (100 + w) (100 + l) ⟨by omega, by omega⟩ ⟨by omega, by omega⟩
    simp only [G.s_l09DrawOne.s0]
    rw [decide_eq_true (show (0 : Int) < (nn : Int) - (i : Int) by omega), cond_true, wrap64 (x := 100 + w) (by omega) (by omega), wrap64 (x := 100 + l) (by omega) (by omega), e8, Option.bind_some, if_pos ⟨by omega, by omega⟩, wrap64 (x := (nn : Int) - (i : Int) - 1) (by omega) (by omega)]
    refine .inl ⟨(s8, ds ++ [b]), ?_, k8.mono (by omega), by simp [n7], fun e he => ?_⟩
    · simp only
      rw [show (nn : Int) - (i : Int) - 1 = (nn : Int) - ((i + 1 : Nat) : Int) by omega]
    · rcases List.mem_append.1 he with he | he
      · exact d7 e he
      · have : e = b := by simpa using he
        rw [this]; exact hb
  · rintro ⟨s7, ds⟩ _
    simp only [G.s_l09DrawOne.s0]
    rw [decide_eq_false (show ¬ (0 : Int) < (nn : Int) - (nn : Int) by omega), cond_false]
theorem p_R8Leaf {c : List Int} (hc : bytesOk c) : ∃ x, G.s_R8Leaf c = some x ∧ LeafV x := by
  obtain ⟨s', x, e, _, h, _⟩ := p_l09DrawOne hc (m := 0) (by omega) (s := Tl00Src.mk c 0 0) ⟨rfl, Int.le_refl _, Int.le_refl _⟩ ⟨#[110, 101, 119]⟩ (by decide)
  have e : G.s_l09DrawOne c 0 0 ⟨#[110, 101, 119]⟩ = some (s', x) := e
  exact ⟨x, by simp only [G.s_R8Leaf, G.s_l00From, Option.bind_some, e], h⟩
theorem cut_in {x : TLeaf} (h : LeafR x) {z : Int} (hz : cutP x.Defects (·.X) (fun b => b.X + b.Width) x.Width x.Defects.length z) : 0 ≤ z ∧ z ≤ x.Width := by
  have := h.w
  rcases hz with h1 | h1 | ⟨j, hj, h1⟩
  · omega
  · omega
  · have := h.d _ (getD_mem hj)
    simp only at h1
    omega
theorem cut_inY {x : TLeaf} (h : LeafR x) {z : Int} (hz : cutP x.Defects (·.Y) (fun b => b.Y + b.Length) x.Length x.Defects.length z) : 0 ≤ z ∧ z ≤ x.Length := by
  have := h.l
  rcases hz with h1 | h1 | ⟨j, hj, h1⟩
  · omega
  · omega
  · have := h.d _ (getD_mem hj)
    simp only at h1
    omega
theorem mem_ix {ds : List TBox} {b : TBox} (hb : b ∈ ds) : ∃ j, j < ds.length ∧ ds.getD j default = b := by
  obtain ⟨i, hi, e⟩ := List.mem_iff_getElem.1 hb
  exact ⟨i, hi, by rw [getD_eq hi]; exact e⟩
theorem c_defect {x : TLeaf} (hV : LeafV x) (p q : Int) (hp : 0 ≤ p ∧ p < x.Width) (hq : 0 ≤ q ∧ q < x.Length) (hm : ∀ e ∈ x.Defects, meetI e p q 1 1 = false) :
    G.i_DefectAt x.Id x.Flitch x.Number x.Veneer.Species x.Veneer.Shade x.Veneer.Grain x.Width x.Length x.Defects p q = some (0, 3) := by
  have hn := hV.r.n
  have hw := hV.r.w
  have hl := hV.r.l
  have h := iter_go (A := Unit) (step := G.i_DefectAt.s0 x.Defects p q) (n := x.Defects.length) (g := fun _ => ()) (fun i _ => (i : Int)) (fun _ _ => True) (fun _ => False) ?_ ?_ x.Defects.length 0 () (by omega) trivial
  · rw [show ((0 : Nat) : Int) = 0 from rfl] at h
    rcases h with ⟨_, _, h⟩ | ⟨r, hr, _⟩
    · have w1 : inR p 0 (x.Width - 1) = true := inR_iff.2 ⟨by omega, by omega⟩
      have w2 : inR q 0 (x.Length - 1) = true := inR_iff.2 ⟨by omega, by omega⟩
      unfold G.i_DefectAt
      rw [leaf_ok hV, Option.bind_some, cond_true, wrap64 (x := x.Width - 1) (by omega) (by omega), wrap64 (x := x.Length - 1) (by omega) (by omega)]
      simp only [p_within, Option.bind_some, w1, w2, cond_true, cond_false, Bool.not_true, h, jn, Sum.elim_inl]
    · exact hr.elim
  · intro i _ hi _
    have hin := leafR_in hV.r _ (getD_mem hi)
    have := hm _ (getD_mem hi)
    simp only [G.i_DefectAt.s0, Int.toNat_natCast]
    rw [decide_eq_true (by omega), cond_true, if_pos ⟨by omega, by omega⟩, c_meet _ ⟨p, q, 1, 1⟩ ⟨by simp only; omega, by simp only; omega, by simp only; omega, by simp only; omega, by simp only; omega, by simp only; omega, by simp only; omega, by simp only; omega⟩ hin, Option.bind_some, this, wrap64 (by omega) (by omega)]
    exact .inl ⟨(), rfl, trivial⟩
  · intro _ _
    simp only [G.i_DefectAt.s0]
    rw [decide_eq_false (by omega), cond_false]
theorem c_noMeet {x : TLeaf} (hV : LeafV x) (b : TBox) (k : Int) (hb : boxIn b x.Width x.Length) (hm : ∀ e ∈ x.Defects, meetI e b.X b.Y b.Width b.Length = false) : iter (G.l_FnClear.s0 x (b, k)) (0 : Int) = some (.inl ()) := by
  have hn := hV.r.n
  have hw := hV.r.w
  have hl := hV.r.l
  have h := iter_go (A := Unit) (step := G.l_FnClear.s0 x (b, k)) (n := x.Defects.length) (g := fun _ => ()) (fun i _ => (i : Int)) (fun _ _ => True) (fun _ => False) ?_ ?_ x.Defects.length 0 () (by omega) trivial
  · rw [show ((0 : Nat) : Int) = 0 from rfl] at h
    rcases h with ⟨_, _, h⟩ | ⟨r, hr, _⟩
    · exact h
    · exact hr.elim
  · intro i _ hi _
    have hd := hV.r.d _ (getD_mem hi)
    have hin := leafR_in hV.r _ (getD_mem hi)
    have hmm := hm _ (getD_mem hi)
    unfold boxIn at hb
    have hbi : inBox b := by unfold inBox; omega
    rw [meetI_comm] at hmm
    simp only [G.l_FnClear.s0, Int.toNat_natCast, G.i_BoxesMeet]
    rw [decide_eq_true (by omega), cond_true, if_pos ⟨by omega, by omega⟩, c_within b 20000 20000 (by omega) (by omega), boxB_true (by omega), Option.bind_some, cond_true, c_within _ 20000 20000 (by omega) (by omega), boxB_true (by omega)]
    simp only [Option.bind_some, cond_true]
    rw [c_meet b _ hin hbi, hmm, wrap64 (by omega) (by omega)]
    exact .inl ⟨(), rfl, trivial⟩
  · intro _ _
    simp only [G.l_FnClear.s0]
    rw [decide_eq_false (by omega), cond_false]
def noLeaf : TLeaf := TLeaf.mk (⟨#[]⟩ : ByteArray) (⟨#[]⟩ : ByteArray) (0 : Int) (TVeneer.mk (⟨#[]⟩ : ByteArray) (0 : Int) (0 : Int)) (0 : Int) (0 : Int) ([] : (List TBox))
theorem c_trim {x : TLeaf} (hV : LeafV x) (b : TBox) (hb : boxIn b x.Width x.Length) (hm : ∀ e ∈ x.Defects, meetI e b.X b.Y b.Width b.Length = false) :
    G.i_TrimLeaf x.Id x.Flitch x.Number x.Veneer.Species x.Veneer.Shade x.Veneer.Grain x.Width x.Length x.Defects b.X b.Y b.Width b.Length = if b.Width < 10 ∨ b.Length < 10 then some (noLeaf, 6) else some (⟨x.Id, x.Flitch, x.Number, x.Veneer, b.Width, b.Length, []⟩, 0) := by
  have hn := hV.r.n
  have hw := hV.r.w
  have hl := hV.r.l
  have h := iter_go (A := Unit) (step := G.i_TrimLeaf.s0 x.Defects b.X b.Y b.Width b.Length) (n := x.Defects.length) (g := fun _ => ([] : List TBox)) (fun i _ => (([] : List TBox), (i : Int))) (fun _ _ => True) (fun _ => False) ?_ ?_ x.Defects.length 0 () (by omega) trivial
  · rw [show ((0 : Nat) : Int) = 0 from rfl] at h
    rcases h with ⟨_, _, h⟩ | ⟨r, hr, _⟩
    · unfold G.i_TrimLeaf
      rw [leaf_ok hV, Option.bind_some, cond_true, c_within b _ _ (by omega) (by omega), boxB_true hb, Option.bind_some, cond_true]
      by_cases c1 : b.Width < 10
      · rw [decide_eq_true c1, if_pos (.inl c1)]; rfl
      · by_cases c2 : b.Length < 10
        · rw [decide_eq_true c2, decide_eq_false c1, if_pos (.inr c2)]; rfl
        · rw [decide_eq_false c1, decide_eq_false c2, if_neg (by omega)]
          simp only [cond_false, Option.bind_some, h, jn, Sum.elim_inl]
    · exact hr.elim
  · intro i _ hi _
    have hin := leafR_in hV.r _ (getD_mem hi)
    unfold boxIn at hb
    have hbi : inBox b := by unfold inBox; omega
    obtain ⟨p, e⟩ := c_common _ b hbi hin
    simp only [G.i_TrimLeaf.s0, Int.toNat_natCast]
    rw [decide_eq_true (by omega), cond_true, if_pos ⟨by omega, by omega⟩, e, Option.bind_some, hm _ (getD_mem hi), wrap64 (x := (i : Int) + 1) (by omega) (by omega)]
    exact .inl ⟨(), rfl, trivial⟩
  · intro _ _
    simp only [G.i_TrimLeaf.s0]
    rw [decide_eq_false (by omega), cond_false]
theorem law_Clear (c m : List Int) (hc : ∀ x ∈ c, 0 ≤ x ∧ x ≤ 255) (hm : ∀ x ∈ m, 0 ≤ x ∧ x ≤ 255) : G.l_FnClear c m = some true := by
  unfold G.l_FnClear G.l_r8Long
  by_cases c1 : (1048576 : Int) < ((c.length : Nat) : Int)
  · rw [decide_eq_true c1]; rfl
  rw [decide_eq_false c1, cond_false, Option.bind_some]
  by_cases c2 : (1048576 : Int) < ((m.length : Nat) : Int)
  · rw [decide_eq_true c2]; rfl
  rw [decide_eq_false c2, Option.bind_some, cond_false]
  have hc : bytesOk c := ⟨by omega, hc⟩
  have hm : bytesOk m := ⟨by omega, hm⟩
  obtain ⟨x, e1, hV⟩ := p_R8Leaf hc
  have hR := hV.r
  have hw := hR.w
  have hl := hR.l
  obtain ⟨xs, ys, e2, px, py, mx, my⟩ := c_usable hV
  obtain ⟨b, hg, e3, hmax⟩ := c_largest hV
  have hU := area_up x.Defects px py (fun z hz => cut_in hR ((mx z).1 hz)) (fun z hz => cut_inY hR ((my z).1 hz)) (by omega) (by omega)
  have hWL := area_le (p := x.Width) (q := x.Length) (by omega) (by omega) (by omega) (by omega)
  have hdw : ∀ e ∈ x.Defects, 1 ≤ e.Width ∧ 1 ≤ e.Length := fun e he => by have := hR.d e he; omega
  have m0 : (0 : Int) ∈ xs ∧ x.Width ∈ xs ∧ (0 : Int) ∈ ys ∧ x.Length ∈ ys := ⟨(mx _).2 (.inl rfl), (mx _).2 (.inr (.inl rfl)), (my _).2 (.inl rfl), (my _).2 (.inr (.inl rfl))⟩
  have l1 : ∀ z ∈ leftsC x.Defects, z ∈ xs := fun z hz => by
    rcases List.mem_cons.1 hz with rfl | hz
    · exact m0.1
    · obtain ⟨e, he, rfl⟩ := List.mem_map.1 hz
      obtain ⟨j, hj, rfl⟩ := mem_ix he
      exact (mx _).2 (.inr (.inr ⟨j, hj, .inr rfl⟩))
  have l2 : ∀ z ∈ rightsC x.Width x.Defects, z ∈ xs := fun z hz => by
    rcases List.mem_cons.1 hz with rfl | hz
    · exact m0.2.1
    · obtain ⟨e, he, rfl⟩ := List.mem_map.1 hz
      obtain ⟨j, hj, rfl⟩ := mem_ix he
      exact (mx _).2 (.inr (.inr ⟨j, hj, .inl rfl⟩))
  have l3 : ∀ z ∈ lowsC x.Defects, z ∈ ys := fun z hz => by
    rcases List.mem_cons.1 hz with rfl | hz
    · exact m0.2.2.1
    · obtain ⟨e, he, rfl⟩ := List.mem_map.1 hz
      obtain ⟨j, hj, rfl⟩ := mem_ix he
      exact (my _).2 (.inr (.inr ⟨j, hj, .inr rfl⟩))
  have l4 : ∀ z ∈ highsC x.Length x.Defects, z ∈ ys := fun z hz => by
    rcases List.mem_cons.1 hz with rfl | hz
    · exact m0.2.2.2
    · obtain ⟨e, he, rfl⟩ := List.mem_map.1 hz
      obtain ⟨j, hj, rfl⟩ := mem_ix he
      exact (my _).2 (.inr (.inr ⟨j, hj, .inl rfl⟩))
  obtain ⟨U, hUe⟩ : ∃ U, areaU meetI x.Defects xs ys = U := ⟨_, rfl⟩
  have e4 : G.l_FnClear.j0 x (U, 0) = some (.inl ()) := by
    rw [hUe] at hU
    unfold G.l_FnClear.j0
    simp only [decide_true, cond_true, Option.bind_some]
    rw [decide_eq_false (show ¬ U < 0 by omega), cond_false, Option.bind_some, wrap64 (x := x.Width * x.Length) (by omega) (by omega), decide_eq_false (show ¬ x.Width * x.Length < U by omega), cond_false]
  rw [e1, Option.bind_some, e2, hUe, Option.bind_some, e3]
  by_cases cz : b.2.2.1 = 0
  · rw [if_pos cz, Option.bind_some, e4]
    have hU0 : U = 0 := by
      rcases Decidable.em (U = 0) with h | h
      · exact h
      · exfalso
        obtain ⟨a, ha, b', hb, cc, hcc, d, hd, g1, g2, g3⟩ := area_pos x.Defects px py (by rw [hUe]; exact h)
        have i1 := cut_in hR ((mx _).1 ha)
        have i2 := cut_in hR ((mx _).1 hb)
        have i3 := cut_inY hR ((my _).1 hcc)
        have i4 := cut_inY hR ((my _).1 hd)
        obtain ⟨z1, q1, z2, q2, z3, q3, z4, q4, q5, q6, q7⟩ := grow_box x.Defects hdw (W := x.Width) (L := x.Length) (lefts := leftsC x.Defects) (rights := rightsC x.Width x.Defects) (lows := lowsC x.Defects) (highs := highsC x.Length x.Defects)
          (List.mem_cons_self ..) (List.mem_cons_self ..) (List.mem_cons_self ..) (List.mem_cons_self ..) (fun e he => List.mem_cons_of_mem _ (List.mem_map.2 ⟨e, he, rfl⟩)) (fun e he => List.mem_cons_of_mem _ (List.mem_map.2 ⟨e, he, rfl⟩)) (fun e he => List.mem_cons_of_mem _ (List.mem_map.2 ⟨e, he, rfl⟩)) (fun e he => List.mem_cons_of_mem _ (List.mem_map.2 ⟨e, he, rfl⟩))
          i1.1 g1 i2.2 i3.1 g2 i4.2 g3
        exact hmax ⟨z1, q1, z2, q2, z3, q3, z4, q4, q5, q6, q7⟩ cz
    subst hU0
    rfl
  · rw [if_neg cz, Option.bind_some, e4]
    rcases hg with h0 | ⟨q1, q2, q3, q4, q5, q6, q7⟩
    · exfalso; apply cz; rw [h0]
    obtain ⟨X, Y, w, l⟩ := b
    simp only at q1 q2 q3 q4 q5 q6 q7 cz
    have i1 := cut_in hR ((mx _).1 (l1 _ q1))
    have i2 := cut_in hR ((mx _).1 (l2 _ q2))
    have i3 := cut_inY hR ((my _).1 (l3 _ q3))
    have i4 := cut_inY hR ((my _).1 (l4 _ q4))
    have hlow := area_low x.Defects px py (by omega) (by omega) (l1 _ q1) (l2 _ q2) (l3 _ q3) (l4 _ q4) q7
    rw [hUe] at hlow hU
    have hb : boxIn ⟨X, Y, w, l⟩ x.Width x.Length := by unfold boxIn; simp only; omega
    have hno : ∀ e ∈ x.Defects, meetI e X Y w l = false := fun e he => by
      rw [List.any_eq_false] at q7
      simpa using q7 e he
    have har := area_le (p := w) (q := l) (by omega) (by omega) (by omega) (by omega)
    have e5 : G.l_FnClear.j1 x (U, 0) (⟨X, Y, w, l⟩, 0) = some (.inl ()) := by
      unfold G.l_FnClear.j1
      simp only
      rw [wrap64 (x := x.Width - X) (by omega) (by omega), wrap64 (x := x.Length - Y) (by omega) (by omega), wrap64 (x := w * l) (by omega) (by omega), decide_eq_false (show ¬ X < 0 by omega), decide_eq_false (show ¬ Y < 0 by omega), decide_eq_false (show ¬ w < 1 by omega), decide_eq_false (show ¬ l < 1 by omega), decide_eq_false (show ¬ x.Width < X by omega), decide_eq_false (show ¬ x.Length < Y by omega), decide_eq_false (show ¬ x.Width - X < w by omega), decide_eq_false (show ¬ x.Length - Y < l by omega), decide_eq_false (show ¬ U < w * l by omega)]
      rfl
    obtain ⟨v1, f1, f2, f3⟩ := p_r8Wide m hm 0 w (by omega) (by omega) (by omega) (by omega)
    obtain ⟨v2, f4, f5, f6⟩ := p_r8Wide m hm 2 l (by omega) (by omega) (by omega) (by omega)
    have e6 := c_defect hV (X + v1) (Y + v2) (by omega) (by omega) (fun e he => by
      have h1 := hno e he
      cases h2 : meetI e (X + v1) (Y + v2) 1 1 with
      | false => rfl
      | true =>
        exfalso
        have h3 : meetI e X Y w l = true := by
          rw [meetI_iff] at h2 ⊢; omega
        rw [h3] at h1; cases h1)
    have e7 := c_noMeet hV ⟨X, Y, w, l⟩ 0 hb hno
    have e8 := c_trim hV ⟨X, Y, w, l⟩ hb hno
    simp only at e8
    simp only [jn, Option.bind_some, Sum.elim_inl, decide_true, cond_true]
    rw [e5]
    simp only [Option.bind_some, Sum.elim_inl]
    rw [f1, Option.bind_some, f4, Option.bind_some, wrap64 (x := X + v1) (by omega) (by omega), wrap64 (x := Y + v2) (by omega) (by omega), e6, Option.bind_some]
    simp only [decide_true, cond_true]
    rw [e7, Option.bind_some]
    simp only [Sum.elim_inl]
    rw [e8]
    by_cases cs : w < 10 ∨ l < 10
    · rw [if_pos cs]
      simp only [Option.bind_some, decide_true, cond_true]
      rw [show decide ((6 : Int) = 0) = false from rfl, cond_false]
      by_cases c3 : w < 10
      · rw [decide_eq_true c3]; rfl
      · rw [decide_eq_false c3, decide_eq_true (show l < 10 by omega)]; rfl
    · rw [if_neg cs]
      have hV2 : LeafV ⟨x.Id, x.Flitch, x.Number, x.Veneer, w, l, []⟩ := ⟨⟨by simp only; omega, by simp only; omega, by simp, by simp, hR.sh, hR.gr⟩, hV.v, hV.id, hV.fl, hV.no⟩
      obtain ⟨xs2, ys2, e9, px2, py2, mx2, my2⟩ := c_usable hV2
      have u1 := area_up ([] : List TBox) px2 py2 (fun z hz => cut_in hV2.r ((mx2 z).1 hz)) (fun z hz => cut_inY hV2.r ((my2 z).1 hz)) (by simp only; omega) (by simp only; omega)
      have u2 := area_low ([] : List TBox) px2 py2 (X := 0) (Y := 0) (w := w) (l := l) (by omega) (by omega) ((mx2 _).2 (.inl rfl)) ((mx2 _).2 (.inr (.inl (by simp only; omega)))) ((my2 _).2 (.inl rfl)) ((my2 _).2 (.inr (.inl (by simp only; omega)))) rfl
      simp only at u1 e9
      have u3 : areaU meetI [] xs2 ys2 = w * l := by omega
      simp only [Option.bind_some, decide_true, cond_true]
      rw [e9, u3]
      simp only [Option.bind_some, decide_true, cond_true]
      rw [wrap64 (x := w * l) (by omega) (by omega), decide_eq_true (show w * l = w * l from rfl)]
      rfl
theorem ret_FnClear (nl : Bool) (rows : List (List CV)) (hl : rows.length ≤ 9223372036854775807) (_ : nl = true → rows = []) (hr : ∀ r ∈ rows, Okl [.int .u8] r) (nl2 : Bool) (rows2 : List (List CV)) (hl2 : rows2.length ≤ 9223372036854775807) (_ : nl2 = true → rows2 = []) (hr2 : ∀ r ∈ rows2, Okl [.int .u8] r) :
    Ret Try.prog 3 none [.c (.sl nl false 1 rows), .c (.sl nl2 false 1 rows2)] [] (.c (.v (.bool true))) := by
  obtain ⟨a, rfl, ha⟩ := bytes_in hr
  obtain ⟨b, rfl, hb⟩ := bytes_in hr2
  exact Ret.args (by simp [AV.lo]) (AWkL.cons (AWk.c CWk.sl) (AWkL.cons (AWk.c CWk.sl) AWkL.nil)) (ret_l_FnClear a b (law_Clear a b ha hb))
end Go.Proofs.Ytnnpjblpiecfdaa.Fw
