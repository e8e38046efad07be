/- What the functions without memory come to. No condition. -/
import Derived.Test.YtnhgffhnfegiiaaGFmc
import Derived.Test.YtnhgffhnfegiiaaFwGf
import Derived.Test.YtnhgffhnfegiiaaFwZb
namespace Go.Proofs.Ytnhgffhnfegiiaa.Fw
open Go.RowKit
set_option linter.unusedVariables false
set_option linter.unusedSimpArgs false
theorem all_getD {a b : List Int} (hl : a.length = b.length) : ((List.range' 0 a.length).all fun i => decide (a.getD i default = b.getD i default)) = decide (a = b) := by
  rw [Bool.eq_iff_iff, List.all_eq_true, decide_eq_true_eq]
  constructor
  · intro h
    refine List.ext_getElem hl fun i h1 h2 => ?_
    have := h i (by simp [List.mem_range'_1]; exact h1)
    simpa [List.getD_eq_getElem?_getD, h1, h2] using this
  · rintro rfl i _
    simp
end Go.Proofs.Ytnhgffhnfegiiaa.Fw
namespace Go.Proofs.Ytnhgffhnfegiiaa.Fw
open Go.RowKit
set_option linter.unusedVariables false
set_option linter.unusedSimpArgs false
def inR (n lo hi : Int) : Bool := decide (lo ≤ n) && decide (n ≤ hi)
theorem p_within (n lo hi : Int) : G.i_within n lo hi = some (inR n lo hi) := by
  unfold G.i_within inR; cases decide (lo ≤ n) <;> rfl
theorem p_l00In (n lo hi : Int) : G.s_l00In n lo hi = some (inR n lo hi) := by
  unfold G.s_l00In inR; cases decide (lo ≤ n) <;> rfl
theorem p_l01Small (c : Int) : G.s_l01Small c = some (inR c 97 122) := by
  unfold G.s_l01Small inR; cases decide (97 ≤ c) <;> rfl
theorem p_l01Digit (c : Int) : G.s_l01Digit c = some (inR c 48 57) := by
  unfold G.s_l01Digit inR; cases decide (48 ≤ c) <;> rfl
theorem all_getDL {α : Type} [Inhabited α] [DecidableEq α] {a b : List α} (hl : a.length = b.length) : ((List.range' 0 a.length).all fun i => decide (a.getD i default = b.getD i default)) = decide (a = b) := by
  rw [Bool.eq_iff_iff, List.all_eq_true, decide_eq_true_eq]
  constructor
  · intro h
    refine List.ext_getElem hl fun i h1 h2 => ?_
    have := h i (by simp [List.mem_range'_1]; exact h1)
    simpa [List.getD_eq_getElem?_getD, h1, h2] using this
  · rintro rfl i _
    simp
theorem makeOk_of {n : Nat} {b : Nat} (h : n ≤ 1048576) (hb : b ≤ 1000) : makeOk (n : Int) (n : Int) b := by
  unfold makeOk
  have h1 : n * b ≤ 1048576 * 1000 := Nat.mul_le_mul h hb
  have h2 : (b : Int) * (n : Int) = ((n * b : Nat) : Int) := by rw [Int.natCast_mul, Int.mul_comm]
  refine ⟨?_, ?_, ?_, ?_⟩ <;> omega
end Go.Proofs.Ytnhgffhnfegiiaa.Fw
namespace Go.Proofs.Ytnhgffhnfegiiaa.Fw
open Go.RowKit
set_option linter.unusedVariables false
set_option linter.unusedSimpArgs false
/-- The sum over neighbours. -/
def pairSum (f : Int → Int → Int) : List Int → Int
  | [] => 0
  | [_] => 0
  | a :: b :: l => f a b + pairSum f (b :: l)
/-- Without neighbours that are alike. -/
def dd : List Int → List Int
  | [] => []
  | [a] => [a]
  | a :: b :: l => if a = b then dd (b :: l) else a :: dd (b :: l)
theorem dd_head (a : Int) (l : List Int) : ∃ t, dd (a :: l) = a :: t := by
  induction l generalizing a with
  | nil => exact ⟨[], rfl⟩
  | cons b l ih =>
    by_cases h : a = b
    · subst h
      obtain ⟨t, ht⟩ := ih a
      exact ⟨t, by rw [dd, if_pos rfl, ht]⟩
    · exact ⟨dd (b :: l), by rw [dd, if_neg h]⟩
theorem pairSum_dd (f : Int → Int → Int) (h : ∀ a, f a a = 0) (l : List Int) : pairSum f (dd l) = pairSum f l := by
  match l with
  | [] => rfl
  | [a] => rfl
  | a :: b :: l =>
    have ih := pairSum_dd f h (b :: l)
    by_cases e : a = b
    · subst e
      rw [dd, if_pos rfl, ih, pairSum, h, Int.zero_add]
    · obtain ⟨t, ht⟩ := dd_head b l
      rw [dd, if_neg e, ht, pairSum, ← ht, ih, pairSum]
termination_by l.length
theorem mem_dd (x : Int) (l : List Int) : x ∈ dd l ↔ x ∈ l := by
  match l with
  | [] => rfl
  | [a] => rfl
  | a :: b :: l =>
    have ih := mem_dd x (b :: l)
    by_cases e : a = b
    · subst e
      rw [dd, if_pos rfl, ih]
      simp
    · rw [dd, if_neg e, List.mem_cons, ih]
      simp
termination_by l.length
theorem dd_lt (l : List Int) (h : l.Pairwise (· ≤ ·)) : (dd l).Pairwise (· < ·) := by
  match l with
  | [] => exact .nil
  | [a] => simp [dd]
  | a :: b :: l =>
    have h2 := List.pairwise_cons.1 h
    have ih := dd_lt (b :: l) h2.2
    by_cases e : a = b
    · subst e
      rw [dd, if_pos rfl]; exact ih
    · rw [dd, if_neg e]
      refine List.pairwise_cons.2 ⟨fun x hx => ?_, ih⟩
      rw [mem_dd] at hx
      have h3 := h2.1 b (List.mem_cons_self ..)
      have h4 := (List.pairwise_cons.1 h2.2).1
      rcases List.mem_cons.1 hx with rfl | hx
      · omega
      · have := h4 x hx; omega
termination_by l.length
/-- Two rising lists with the same members are the same. -/
theorem rising_eq : ∀ (a b : List Int), a.Pairwise (· < ·) → b.Pairwise (· < ·) → (∀ x, x ∈ a ↔ x ∈ b) → a = b
  | [], [], _, _, _ => rfl
  | [], y :: b, _, _, h => by have := (h y).2 (List.mem_cons_self ..); simp at this
  | x :: a, [], _, _, h => by have := (h x).1 (List.mem_cons_self ..); simp at this
  | x :: a, y :: b, ha, hb, h => by
    have h1 := List.pairwise_cons.1 ha
    have h2 := List.pairwise_cons.1 hb
    have e : x = y := by
      have p := (h x).1 (List.mem_cons_self ..)
      have q := (h y).2 (List.mem_cons_self ..)
      rcases List.mem_cons.1 p with p | p
      · exact p
      · rcases List.mem_cons.1 q with q | q
        · exact q.symm
        · have := h1.1 y q; have := h2.1 x p; omega
    subst e
    have : a = b := rising_eq a b h1.2 h2.2 fun z => by
      have hz := h z
      rw [List.mem_cons, List.mem_cons] at hz
      constructor
      · intro m
        rcases hz.1 (.inr m) with rfl | m'
        · exact absurd (h1.1 z m) (by omega)
        · exact m'
      · intro m
        rcases hz.2 (.inr m) with rfl | m'
        · exact absurd (h2.1 z m) (by omega)
        · exact m'
    rw [this]
theorem pairSum_le (f : Int → Int → Int) (B : Int) (l : List Int) (h : ∀ a ∈ l, ∀ b ∈ l, a ≤ b → 0 ≤ f a b ∧ f a b ≤ B) (hp : l.Pairwise (· ≤ ·)) : 0 ≤ pairSum f l ∧ pairSum f l ≤ (l.length : Int) * B ∧ (l ≠ [] → 0 ≤ (l.length : Int)) := by
  match l with
  | [] => exact ⟨by simp [pairSum], by simp [pairSum], fun _ => by simp⟩
  | [a] => 
    have := h a (List.mem_cons_self ..) a (List.mem_cons_self ..) (Int.le_refl _)
    exact ⟨by simp [pairSum], by simp [pairSum]; omega, fun _ => by simp⟩
  | a :: b :: l =>
    have hp2 := List.pairwise_cons.1 hp
    have ih := pairSum_le f B (b :: l) (fun x hx y hy => h x (List.mem_cons_of_mem _ hx) y (List.mem_cons_of_mem _ hy)) hp2.2
    have h1 := h a (List.mem_cons_self ..) b (List.mem_cons_of_mem _ (List.mem_cons_self ..)) (hp2.1 b (List.mem_cons_self ..))
    refine ⟨by rw [pairSum]; omega, ?_, fun _ => by omega⟩
    rw [pairSum, List.length_cons]
    have : ((((b :: l).length + 1 : Nat) : Int)) * B = ((b :: l).length : Int) * B + B := by
      rw [Int.natCast_add, Int.add_mul]; simp
    omega
termination_by l.length
/-- A loop over neighbours. -/
theorem iter_pairs {R : Type} {step : Int × Int → Option ((Int × Int) ⊕ (Int ⊕ R))} (l : List Int) (f : Int → Int → Int) (B base : Int) (h0 : 1 ≤ l.length) (hlen : l.length ≤ 1000)
    (hf : ∀ a ∈ l, ∀ b ∈ l, a ≤ b → 0 ≤ f a b ∧ f a b ≤ B) (hp : l.Pairwise (· ≤ ·))
    (hs : ∀ (i : Nat) (sum : Int), i + 1 < l.length → base ≤ sum → sum ≤ base + 1000 * B → step (sum, ((i + 1 : Nat) : Int)) = some (.inl (sum + f (l.getD i default) (l.getD (i + 1) default), ((i + 1 + 1 : Nat) : Int))))
    (he : ∀ sum : Int, step (sum, (l.length : Int)) = some (.inr (.inl sum))) :
    iter step (base, (1 : Int)) = some (.inl (base + pairSum f l)) := by
  have key : ∀ (m : Nat) (i : Nat) (sum : Int), i + 1 + m = l.length → base ≤ sum → sum ≤ base + (i : Int) * B → iter step (sum, ((i + 1 : Nat) : Int)) = some (.inl (sum + pairSum f (l.drop i))) := by
    intro m
    induction m with
    | zero =>
      intro i sum hi h1 h2
      have hl : i < l.length := by omega
      have : l.drop i = [l[i]] := by
        rw [← List.getElem_cons_drop hl, List.drop_eq_nil_of_le (by omega)]
      rw [this, show i + 1 = l.length by omega, iter_inr (r := .inl sum) (he sum)]
      simp [pairSum]
    | succ m ih =>
      intro i sum hi h1 h2
      have hl : i < l.length := by omega
      have hl2 : i + 1 < l.length := by omega
      have hd : l.drop i = l[i] :: l[i + 1] :: l.drop (i + 2) := by
        rw [← List.getElem_cons_drop hl, ← List.getElem_cons_drop hl2]
      have hd2 : l.drop (i + 1) = l[i + 1] :: l.drop (i + 2) := by rw [← List.getElem_cons_drop hl2]
      have hle : l[i] ≤ l[i + 1] := List.pairwise_iff_getElem.1 hp i (i + 1) hl hl2 (by omega)
      obtain ⟨b1, b2⟩ := hf l[i] (List.getElem_mem hl) l[i + 1] (List.getElem_mem hl2) hle
      have g1 : l.getD i default = l[i] := by rw [List.getD_eq_getElem?_getD, List.getElem?_eq_getElem hl, Option.getD_some]
      have g2 : l.getD (i + 1) default = l[i + 1] := by rw [List.getD_eq_getElem?_getD, List.getElem?_eq_getElem hl2, Option.getD_some]
      have hB : 0 ≤ B := by omega
      have hiB : (i : Int) * B ≤ 1000 * B := Int.mul_le_mul_of_nonneg_right (by omega) hB
      have hst := hs i sum (by omega) h1 (by omega)
      rw [g1, g2] at hst
      have e1 : ((i + 1 : Nat) : Int) * B = (i : Int) * B + B := by rw [Int.natCast_add, Int.add_mul]; simp
      rw [iter_inl hst, ih (i + 1) _ (by omega) (by omega) (by rw [e1]; omega), hd, hd2, pairSum]
      congr 2
      omega
  have := key (l.length - 1) 0 base (by omega) (Int.le_refl _) (by simp)
  simpa using this
/-- A number laid into a rising list. -/
def ins (n : Int) : List Int → List Int
  | [] => [n]
  | a :: l => if n ≤ a then (if n < a then n :: a :: l else a :: l) else a :: ins n l
theorem mem_ins (n x : Int) (l : List Int) : x ∈ ins n l ↔ x = n ∨ x ∈ l := by
  induction l with
  | nil => simp [ins]
  | cons a l ih =>
    unfold ins
    split
    · split
      · simp
      · have : n = a := by omega
        subst this
        simp
    · rw [List.mem_cons, ih, List.mem_cons]
      constructor
      · rintro (h | h | h) <;> simp [h]
      · rintro (h | h | h) <;> simp [h]
theorem ins_lt (n : Int) (l : List Int) (h : l.Pairwise (· < ·)) : (ins n l).Pairwise (· < ·) := by
  induction l with
  | nil => simp [ins]
  | cons a l ih =>
    have h1 := List.pairwise_cons.1 h
    unfold ins
    split
    · split
      · refine List.pairwise_cons.2 ⟨fun x hx => ?_, h⟩
        rcases List.mem_cons.1 hx with rfl | hx
        · assumption
        · have := h1.1 x hx; omega
      · exact h
    · refine List.pairwise_cons.2 ⟨fun x hx => ?_, ih h1.2⟩
      rw [mem_ins] at hx
      rcases hx with rfl | hx
      · omega
      · exact h1.1 x hx
theorem ins_len (n : Int) (l : List Int) : (ins n l).length ≤ l.length + 1 := by
  induction l with
  | nil => simp [ins]
  | cons a l ih =>
    unfold ins
    split
    · split <;> simp
    · simp only [List.length_cons]; omega
theorem lt_le {l : List Int} (h : l.Pairwise (· < ·)) : l.Pairwise (· ≤ ·) := h.imp (fun h => Int.le_of_lt h)
end Go.Proofs.Ytnhgffhnfegiiaa.Fw
namespace Go.Proofs.Ytnhgffhnfegiiaa.Fw
open Go.RowKit
set_option linter.unusedVariables false
set_option linter.unusedSimpArgs false
end Go.Proofs.Ytnhgffhnfegiiaa.Fw
namespace Go.Proofs.Ytnhgffhnfegiiaa.Fw
open Go.RowKit
set_option linter.unusedVariables false
set_option linter.unusedSimpArgs false
theorem p_toLoss (x : TLoss) : G.l_toLoss x.Name x.Veneer.Species x.Veneer.Shade x.Veneer.Grain x.Area x.Priority x.Cost x.Minutes = some x := rfl
def smallLoss (x : TLoss) : Prop := x.Name.size ≤ 9223372036854775807 ∧ x.Veneer.Species.size ≤ 9223372036854775807
theorem p_szLoss (x : TLoss) (h : smallLoss x) (left : Int) (h1 : 0 ≤ left) (h2 : left ≤ 1048576) : ∃ q, G.l_szLoss x.Name x.Veneer.Species x.Veneer.Shade x.Veneer.Grain x.Area x.Priority x.Cost x.Minutes left = some q ∧ q ≤ left := by
  obtain ⟨ha, hb⟩ := h
  unfold G.l_szLoss
  rw [wrap64 (by omega) (by omega)]
  by_cases c1 : left - (x.Name.size : Int) < 0
  · exact ⟨-1, by simp [c1], by omega⟩
  · rw [show decide (left - (x.Name.size : Int) < 0) = false from by simpa using c1]
    simp only [cond_false, G.l_szVeneer]
    rw [wrap64 (by omega) (by omega)]
    by_cases c2 : left - (x.Name.size : Int) - (x.Veneer.Species.size : Int) < 0
    · exact ⟨-1, by simp [c2], by omega⟩
    · exact ⟨left - (x.Name.size : Int) - (x.Veneer.Species.size : Int), by simp [c2], by omega⟩
end Go.Proofs.Ytnhgffhnfegiiaa.Fw
namespace Go.Proofs.Ytnhgffhnfegiiaa.Fw
open Go.RowKit
set_option linter.unusedVariables false
set_option linter.unusedSimpArgs false
end Go.Proofs.Ytnhgffhnfegiiaa.Fw
namespace Go.Proofs.Ytnhgffhnfegiiaa.Fw
open Go.RowKit
set_option linter.unusedVariables false
set_option linter.unusedSimpArgs false
def chOk (c : Int) : Bool := inR c 97 122 || inR c 48 57
def nameOk (s : ByteArray) : Bool := !(decide (s.size = 0) || decide ((10 : Int) < ((s.size : Nat) : Int))) && (inR (byteAt s 0) 97 122 && (List.range' 0 s.size).all fun i => chOk (byteAt s i))
theorem p_l01Name (s : ByteArray) (hs : s.size ≤ 9223372036854775807) : G.s_l01Name s = some (nameOk s) := by
  have hit : iter (G.s_l01Name.s0 s) 0 = some (if (List.range' 0 s.size).all (fun i => chOk (byteAt s i)) then .inl () else .inr false) := by
    refine iter_scan (step := G.s_l01Name.s0 s) (n := s.size) (p := fun i => chOk (byteAt s i)) (v := ()) (r := false) ?_ ?_ s.size 0 (by omega)
    · intro i hi
      have h1 : decide ((i : Int) < ((s.size : Nat) : Int)) = true := by simp; omega
      have hc : 0 ≤ (i : Int) ∧ (i : Int) < ((s.size : Nat) : Int) := ⟨by omega, by omega⟩
      simp only [G.s_l01Name.s0, h1, cond_true, if_pos hc, p_l01Small, p_l01Digit, Int.toNat_natCast, Option.bind_some, chOk]
      rw [wrap64 (by omega) (by omega)]
      rcases Bool.eq_false_or_eq_true (inR (byteAt s i) 97 122) with h5 | h5 <;> rcases Bool.eq_false_or_eq_true (inR (byteAt s i) 48 57) with h6 | h6 <;> simp [h5, h6]
    · have h1 : decide (((s.size : Nat) : Int) < ((s.size : Nat) : Int)) = false := by simp
      simp only [G.s_l01Name.s0, h1, cond_false]
  unfold G.s_l01Name nameOk
  rw [hit]
  by_cases c0 : s.size = 0
  · simp [c0]
  · by_cases c1 : (10 : Int) < ((s.size : Nat) : Int)
    · simp [c0, c1]
    · have hc : 0 ≤ (0 : Int) ∧ (0 : Int) < ((s.size : Nat) : Int) := ⟨by omega, by omega⟩
      simp only [c0, c1, decide_false, cond_false, Option.bind_some, if_pos hc, p_l01Small, Bool.or_self, Bool.not_false, Bool.true_and]
      cases inR (byteAt s 0) 97 122
      · rfl
      · cases (List.range' 0 s.size).all fun i => chOk (byteAt s i) <;> rfl
theorem lt_not (a b : Int) : decide (a < b) = !decide (b ≤ a) := by
  by_cases h : a < b
  · simp [h, Int.not_le.2 h]
  · simp [h, Int.not_lt.1 h]
theorem p_IsName (s : ByteArray) (hs : s.size ≤ 9223372036854775807) : G.i_IsName s = some (nameOk s) := by
  have hit : iter (G.i_IsName.s0 s) 0 = some (if (List.range' 0 s.size).all (fun i => chOk (byteAt s i)) then .inl () else .inr false) := by
    refine iter_scan (step := G.i_IsName.s0 s) (n := s.size) (p := fun i => chOk (byteAt s i)) (v := ()) (r := false) ?_ ?_ s.size 0 (by omega)
    · intro i hi
      have h1 : decide ((i : Int) < ((s.size : Nat) : Int)) = true := by simp; omega
      have hc : 0 ≤ (i : Int) ∧ (i : Int) < ((s.size : Nat) : Int) := ⟨by omega, by omega⟩
      simp only [G.i_IsName.s0, h1, cond_true, if_pos hc, Int.toNat_natCast, Option.bind_some, chOk, inR]
      rw [wrap64 (by omega) (by omega), lt_not (byteAt s i) 97, lt_not 122 (byteAt s i), lt_not (byteAt s i) 48, lt_not 57 (byteAt s i)]
      by_cases h5 : 97 ≤ byteAt s i <;> by_cases h6 : byteAt s i ≤ 122 <;> by_cases h7 : 48 ≤ byteAt s i <;> by_cases h8 : byteAt s i ≤ 57 <;> simp [h5, h6, h7, h8]
    · have h1 : decide (((s.size : Nat) : Int) < ((s.size : Nat) : Int)) = false := by simp
      simp only [G.i_IsName.s0, h1, cond_false]
  unfold G.i_IsName nameOk
  rw [hit]
  by_cases c0 : s.size = 0
  · simp [c0]
  · by_cases c1 : (10 : Int) < ((s.size : Nat) : Int)
    · have c2 : ¬ ((s.size : Nat) : Int) < 1 := by omega
      simp [c0, c1, c2]
    · have hc : 0 ≤ (0 : Int) ∧ (0 : Int) < ((s.size : Nat) : Int) := ⟨by omega, by omega⟩
      have c2 : ¬ ((s.size : Nat) : Int) < 1 := by omega
      simp only [c0, c1, c2, decide_false, cond_false, Option.bind_some, if_pos hc, Bool.or_self, Bool.not_false, Bool.true_and, inR, lt_not (byteAt s 0) 97, lt_not 122 (byteAt s 0)]
      cases decide (97 ≤ byteAt s 0) <;> cases decide (byteAt s 0 ≤ 122) <;> cases (List.range' 0 s.size).all fun i => chOk (byteAt s i) <;> rfl
end Go.Proofs.Ytnhgffhnfegiiaa.Fw
namespace Go.Proofs.Ytnhgffhnfegiiaa.Fw
open Go.RowKit
set_option linter.unusedVariables false
set_option linter.unusedSimpArgs false
def names : List ByteArray := [(⟨#[97, 115, 104]⟩ : ByteArray), (⟨#[98, 101, 101, 99, 104]⟩ : ByteArray), (⟨#[98, 105, 114, 99, 104]⟩ : ByteArray), (⟨#[99, 104, 101, 114, 114, 121]⟩ : ByteArray), (⟨#[101, 98, 111, 110, 121]⟩ : ByteArray), (⟨#[104, 111, 108, 108, 121]⟩ : ByteArray), (⟨#[109, 97, 112, 108, 101]⟩ : ByteArray), (⟨#[111, 97, 107]⟩ : ByteArray), (⟨#[114, 111, 115, 101, 119, 111, 111, 100]⟩ : ByteArray), (⟨#[119, 97, 108, 110, 117, 116]⟩ : ByteArray)]
theorem f_step (n : ByteArray) (i : Nat) (hi : i < 10) : G.s_l07Find.s0 n names (i : Int) = if decide (names.getD i default = n) = true then some (.inr (.inr (i : Int))) else some (.inl ((i + 1 : Nat) : Int)) := by
  have h1 : decide ((i : Int) < ((names.length : Nat) : Int)) = true := by simp [names]; omega
  have hc : 0 ≤ (i : Int) ∧ (i : Int) < ((names.length : Nat) : Int) := ⟨by omega, by simp [names]; omega⟩
  simp only [G.s_l07Find.s0, h1, cond_true, if_pos hc, Int.toNat_natCast]
  rw [wrap64 (by omega) (by omega)]
  by_cases h : names.getD i default = n
  · simp only [h, decide_true, cond_true, if_true]
  · simp only [h, decide_false, cond_false, Bool.false_eq_true, if_false]
    rfl
theorem f_end (n : ByteArray) : G.s_l07Find.s0 n names ((10 : Nat) : Int) = some (.inr (.inl ())) := rfl
/-- The place of a name. -/
def findN (n : ByteArray) : Nat → Nat → Int
  | 0, _ => -1
  | m + 1, k => if names.getD k default = n then (k : Int) else findN n m (k + 1)
theorem f_iter (n : ByteArray) : ∀ (m k : Nat), k + m = 10 → iter (G.s_l07Find.s0 n names) (k : Int) = some (if findN n m k = -1 then .inl () else .inr (findN n m k)) := by
  intro m
  induction m with
  | zero =>
    intro k hk
    have : k = 10 := by omega
    subst this
    rw [iter_inr (f_end n)]
    simp [findN]
  | succ m ih =>
    intro k hk
    have h1 := f_step n k (by omega)
    by_cases h : names.getD k default = n
    · rw [if_pos (by simpa using h)] at h1
      rw [iter_inr h1]
      have : ¬ (k : Int) = -1 := by omega
      simp only [findN, if_pos h, if_neg this]
    · rw [if_neg (by simpa using h)] at h1
      rw [iter_inl h1, ih (k + 1) (by omega)]
      simp only [findN, if_neg h]
theorem p_l07Find (n : ByteArray) : G.s_l07Find n = some (findN n 10 0) := by
  unfold G.s_l07Find
  have h : G.s_l07Names = some names := rfl
  rw [h]
  show jn (iter (G.s_l07Find.s0 n names) ((0 : Nat) : Int)) _ = _
  rw [f_iter n 10 0 rfl]
  by_cases h : findN n 10 0 = -1
  · rw [if_pos h, h]; rfl
  · rw [if_neg h]; rfl
end Go.Proofs.Ytnhgffhnfegiiaa.Fw
namespace Go.Proofs.Ytnhgffhnfegiiaa.Fw
open Go.RowKit
set_option linter.unusedVariables false
set_option linter.unusedSimpArgs false
/-- What is told of a species: its shade and whether it is one. -/
theorem species (n : ByteArray) : (∃ k : Nat, k < 10 ∧ n = names.getD k default ∧ findN n 10 0 = (k : Int)) ∨ (findN n 10 0 = -1 ∧ ∀ k : Nat, k < 10 → n ≠ names.getD k default) := by
  have main : ∀ m k, k + m = 10 → (∃ j : Nat, k ≤ j ∧ j < 10 ∧ n = names.getD j default ∧ findN n m k = (j : Int)) ∨ (findN n m k = -1 ∧ ∀ j : Nat, k ≤ j → j < 10 → n ≠ names.getD j default) := by
    intro m
    induction m with
    | zero => intro k hk; exact .inr ⟨rfl, fun j h1 h2 => by omega⟩
    | succ m ih =>
      intro k hk
      by_cases h : names.getD k default = n
      · exact .inl ⟨k, Nat.le_refl _, by omega, h.symm, by simp only [findN, if_pos h]⟩
      · rcases ih (k + 1) (by omega) with ⟨j, h1, h2, h3, h4⟩ | ⟨h1, h2⟩
        · exact .inl ⟨j, by omega, h2, h3, by simp only [findN, if_neg h]; exact h4⟩
        · refine .inr ⟨by simp only [findN, if_neg h]; exact h1, fun j h3 h4 => ?_⟩
          by_cases e : j = k
          · subst e; exact fun hc => h hc.symm
          · exact h2 j (by omega) h4
  rcases main 10 0 rfl with ⟨j, _, h2, h3, h4⟩ | ⟨h1, h2⟩
  · exact .inl ⟨j, h2, h3, h4⟩
  · exact .inr ⟨h1, fun k hk => h2 k (Nat.zero_le _) hk⟩
def veneerB (c sh gr : Int) : Bool := inR sh 0 100 && inR sh (c - 15) (c + 15) && inR gr 0 179
theorem v_impl (n : ByteArray) (sh gr c x y : Int) (hsh : -9223372036854775808 ≤ sh ∧ sh ≤ 9223372036854775807) (hc : 0 ≤ c ∧ c ≤ 100) (h : G.i_SpeciesData n = some (c, x, y, 0)) : G.i_ValidVeneer n sh gr = some (veneerB c sh gr) := by
  have hi : -1000000 ≤ sh ∧ sh ≤ 1000000 → inR (IntKind.wrap .i64 (sh - c)) (-15) 15 = inR sh (c - 15) (c + 15) := fun h => by
    rw [wrap64 (by omega) (by omega)]
    unfold inR
    rw [Bool.eq_iff_iff]
    simp only [Bool.and_eq_true, decide_eq_true_eq]
    omega
  simp only [G.i_ValidVeneer, G.i_speciesShade, h, Option.bind_some, decide_true, cond_true, p_within, veneerB]
  rcases Bool.eq_false_or_eq_true (inR sh 0 100) with h0 | h0
  · rw [h0, hi (by simp only [inR, Bool.and_eq_true, decide_eq_true_eq] at h0; omega)]
    cases inR sh (c - 15) (c + 15) <;> cases inR gr 0 179 <;> rfl
  · rw [h0]
    rfl
theorem v_spec (n : ByteArray) (sh gr c : Int) (k : Nat) (hk : k < 10) (hc : 0 ≤ c ∧ c ≤ 100) (hf : findN n 10 0 = (k : Int)) (t : List (List Int)) (ht : G.s_l07Table = some t) (hl : t.length = 10) (hr : ∃ a b, t.getD k default = [c, a, b]) : G.s_l07Ok n sh gr = some (veneerB c sh gr) := by
  obtain ⟨a, b, hr⟩ := hr
  have h0 : decide ((k : Int) < 0) = false := by simp
  have h1 : 0 ≤ (k : Int) ∧ (k : Int) < ((t.length : Nat) : Int) := ⟨by omega, by omega⟩
  have hw1 : IntKind.wrap .i64 (c - 15) = c - 15 := wrap64 (by omega) (by omega)
  have hw2 : IntKind.wrap .i64 (c + 15) = c + 15 := wrap64 (by omega) (by omega)
  simp only [G.s_l07Ok, p_l07Find, hf, Option.bind_some, h0, cond_false, p_l00In, ht, if_pos h1, Int.toNat_natCast, hr, G.s_l07Grain, veneerB]
  have h2 : (0 : Int) ≤ 0 ∧ (0 : Int) < (([c, a, b].length : Nat) : Int) := ⟨by omega, by simp⟩
  simp only [if_pos h2, List.getD_cons_zero, hw1, hw2, Option.bind_some]
  cases inR sh 0 100 <;> cases inR sh (c - 15) (c + 15) <;> cases inR gr 0 179 <;> rfl
theorem p_veneer3 (n : ByteArray) (sh gr : Int) (hsh : -9223372036854775808 ≤ sh ∧ sh ≤ 9223372036854775807) : ∃ b, G.s_l07Ok n sh gr = some b ∧ G.i_ValidVeneer n sh gr = some b ∧ (b = true → n.size ≤ 20 ∧ inR sh 0 100 = true ∧ inR gr 0 179 = true) := by
  rcases species n with ⟨k, hk, hn, hf⟩ | ⟨hf, hno⟩
  · have hcs : k = 0 ∨ k = 1 ∨ k = 2 ∨ k = 3 ∨ k = 4 ∨ k = 5 ∨ k = 6 ∨ k = 7 ∨ k = 8 ∨ k = 9 := by omega
    rcases hcs with rfl | rfl | rfl | rfl | rfl | rfl | rfl | rfl | rfl | rfl <;> subst hn <;> exact ⟨_, v_spec _ sh gr _ _ hk (by constructor <;> decide) hf _ rfl rfl ⟨_, _, rfl⟩, v_impl _ sh gr _ _ _ hsh (by constructor <;> decide) rfl, fun h => ⟨by decide, by simp only [veneerB, Bool.and_eq_true] at h; exact ⟨h.1.1, h.2⟩⟩⟩
  · refine ⟨false, ?_, ?_, fun h => by cases h⟩
    · simp only [G.s_l07Ok, p_l07Find, hf, Option.bind_some]
      rfl
    · have e : ∀ k : Nat, k < 10 → decide (n = names.getD k default) = false := fun k hk => by simpa using hno k hk
      have h : G.i_speciesShade n = some (0, false) := by
        simp only [G.i_speciesShade, G.i_SpeciesData]
        have e0 := e 0 (by omega); have e1 := e 1 (by omega); have e2 := e 2 (by omega); have e3 := e 3 (by omega); have e4 := e 4 (by omega)
        have e5 := e 5 (by omega); have e6 := e 6 (by omega); have e7 := e 7 (by omega); have e8 := e 8 (by omega); have e9 := e 9 (by omega)
        simp only [names, List.getD_cons_zero, List.getD_cons_succ] at e0 e1 e2 e3 e4 e5 e6 e7 e8 e9
        simp only [e0, e1, e2, e3, e4, e5, e6, e7, e8, e9, cond_false]
        rfl
      simp only [G.i_ValidVeneer, h, Option.bind_some]
      rfl
theorem p_veneer (n : ByteArray) (sh gr : Int) (hsh : -9223372036854775808 ≤ sh ∧ sh ≤ 9223372036854775807) : ∃ b, G.s_l07Ok n sh gr = some b ∧ G.i_ValidVeneer n sh gr = some b := by
  obtain ⟨b, h1, h2, _⟩ := p_veneer3 n sh gr hsh
  exact ⟨b, h1, h2⟩
end Go.Proofs.Ytnhgffhnfegiiaa.Fw
namespace Go.Proofs.Ytnhgffhnfegiiaa.Fw
open Go.RowKit
set_option linter.unusedVariables false
set_option linter.unusedSimpArgs false
def fitLoss (x : TLoss) : Prop := smallLoss x ∧ -9223372036854775808 ≤ x.Veneer.Shade ∧ x.Veneer.Shade ≤ 9223372036854775807
structure lossGood (x : TLoss) : Prop where
  name : nameOk x.Name = true
  spec : x.Veneer.Species.size ≤ 20
  shade : inR x.Veneer.Shade 0 100 = true
  grain : inR x.Veneer.Grain 0 179 = true
  area : inR x.Area 1 400000000 = true
  pri : inR x.Priority 1 9 = true
  cost : inR x.Cost 0 1000000 = true
  mins : inR x.Minutes 0 10000 = true
  ven : G.i_ValidVeneer x.Veneer.Species x.Veneer.Shade x.Veneer.Grain = some true
theorem p_lossOne3 (x : TLoss) (hx : fitLoss x) : ∃ b, G.s_l25One x.Name x.Veneer.Species x.Veneer.Shade x.Veneer.Grain x.Area x.Priority x.Cost x.Minutes = some b ∧ G.i_ValidLoss x.Name x.Veneer.Species x.Veneer.Shade x.Veneer.Grain x.Area x.Priority x.Cost x.Minutes = some b ∧ (b = true → lossGood x) := by
  obtain ⟨⟨h1, h2⟩, h3⟩ := hx
  obtain ⟨v, hv1, hv2, hv3⟩ := p_veneer3 x.Veneer.Species x.Veneer.Shade x.Veneer.Grain h3
  refine ⟨nameOk x.Name && v && inR x.Area 1 400000000 && inR x.Priority 1 9 && inR x.Cost 0 1000000 && inR x.Minutes 0 10000, ?_, ?_, ?_⟩
  · simp only [G.s_l25One, p_l01Name x.Name h1, hv1, p_l00In, Option.bind_some]
    cases nameOk x.Name <;> cases v <;> cases inR x.Area 1 400000000 <;> cases inR x.Priority 1 9 <;> cases inR x.Cost 0 1000000 <;> cases inR x.Minutes 0 10000 <;> rfl
  · simp only [G.i_ValidLoss, p_IsName x.Name h1, hv2, p_within, Option.bind_some]
    cases nameOk x.Name <;> cases v <;> cases inR x.Area 1 400000000 <;> cases inR x.Priority 1 9 <;> cases inR x.Cost 0 1000000 <;> cases inR x.Minutes 0 10000 <;> rfl
  · intro h
    simp only [Bool.and_eq_true] at h
    obtain ⟨e1, e2, e3⟩ := hv3 h.1.1.1.1.2
    exact ⟨h.1.1.1.1.1, e1, e2, e3, h.1.1.1.2, h.1.1.2, h.1.2, h.2, by rw [hv2, h.1.1.1.1.2]⟩
theorem p_lossOne (x : TLoss) (hx : fitLoss x) : ∃ b, G.s_l25One x.Name x.Veneer.Species x.Veneer.Shade x.Veneer.Grain x.Area x.Priority x.Cost x.Minutes = some b ∧ G.i_ValidLoss x.Name x.Veneer.Species x.Veneer.Shade x.Veneer.Grain x.Area x.Priority x.Cost x.Minutes = some b ∧ (b = true → inR x.Priority 1 9 = true ∧ inR x.Cost 0 1000000 = true) := by
  obtain ⟨b, h1, h2, h3⟩ := p_lossOne3 x hx
  exact ⟨b, h1, h2, fun h => ⟨(h3 h).pri, (h3 h).cost⟩⟩
theorem fit_get {a : List TLoss} (ha : ∀ x ∈ a, fitLoss x) {i : Nat} (hi : i < a.length) : fitLoss (a.getD i default) := by
  rw [List.getD_eq_getElem?_getD, List.getElem?_eq_getElem hi, Option.getD_some]
  exact ha _ (List.getElem_mem hi)
end Go.Proofs.Ytnhgffhnfegiiaa.Fw
namespace Go.Proofs.Ytnhgffhnfegiiaa.Fw
open Go.RowKit
set_option linter.unusedVariables false
set_option linter.unusedSimpArgs false
theorem getD_mem {α : Type} [Inhabited α] {l : List α} {i : Nat} (h : i < l.length) : l.getD i default ∈ l := by
  rw [List.getD_eq_getElem?_getD, List.getElem?_eq_getElem h, Option.getD_some]
  exact List.getElem_mem h
theorem copy_loop {α : Type} [Inhabited α] (a : List α) (z : α) (step : List α × Int → Option ((List α × Int) ⊕ (List α ⊕ List α)))
    (hs : ∀ (i : Nat) (o : List α), i < a.length → o.length = a.length → step (o, (i : Int)) = some (.inl (o.set i (a.getD i default), ((i + 1 : Nat) : Int)))) (he : ∀ o, step (o, (a.length : Int)) = some (.inr (.inl o))) :
    iter step (List.replicate a.length z, (0 : Int)) = some (.inl a) := by
  have hh := iter_inv (step := step) (n := a.length) (g := fun o => o) (fun i o => o.length = a.length ∧ ∀ j, j < i → o.getD j default = a.getD j default) ?_ ?_ a.length 0 (List.replicate a.length z) (by omega) ⟨List.length_replicate .., fun j hj => by omega⟩
  · obtain ⟨o, ho, h⟩ := hh
    rw [show ((0 : Nat) : Int) = 0 from rfl] at h
    rw [h]
    congr 2
    refine List.ext_getElem ho.1 fun i h1 h2 => ?_
    have := ho.2 i h2
    rwa [List.getD_eq_getElem?_getD, List.getD_eq_getElem?_getD, List.getElem?_eq_getElem h1, List.getElem?_eq_getElem h2, Option.getD_some, Option.getD_some] at this
  · rintro i o hi ⟨h1, h2⟩
    refine ⟨o.set i (a.getD i default), hs i o hi h1, by simpa using h1, fun j hj => ?_⟩
    by_cases e : j = i
    · subst e; exact getD_set_self _ _ _ _ (by omega)
    · have := h2 j (by omega)
      rw [← this]
      simp [List.getD_eq_getElem?_getD, List.getElem?_set, Ne.symm e]
  · rintro o ⟨h1, h2⟩
    exact he o
theorem p_toBoxS (a : List TBox) (ha : a.length ≤ 1048576) : G.l_toBoxS a = some a := by
  unfold G.l_toBoxS
  rw [if_pos (makeOk_of ha (by omega)), copy_loop a _ _ ?_ ?_]
  · rfl
  · intro i o hi ho
    simp only [G.l_toBoxS.s0, G.l_toBox, Int.toNat_natCast, Option.bind_some]
    rw [decide_eq_true (by omega), cond_true, if_pos ⟨by omega, by omega⟩, if_pos ⟨by omega, by omega⟩, wrap64 (by omega) (by omega)]
    rfl
  · intro o
    simp only [G.l_toBoxS.s0]
    rw [decide_eq_false (by omega), cond_false]
def fitLeaf (x : TLeaf) : Prop := x.Id.size ≤ 9223372036854775807 ∧ x.Flitch.size ≤ 9223372036854775807 ∧ x.Veneer.Species.size ≤ 9223372036854775807 ∧ -9223372036854775808 ≤ x.Veneer.Shade ∧ x.Veneer.Shade ≤ 9223372036854775807 ∧ x.Defects.length ≤ 9223372036854775807
theorem p_toLeaf (x : TLeaf) (h : x.Defects.length ≤ 1048576) : G.l_toLeaf x.Id x.Flitch x.Number x.Veneer.Species x.Veneer.Shade x.Veneer.Grain x.Width x.Length x.Defects = some x := by
  unfold G.l_toLeaf G.l_toVeneer
  simp only [Option.bind_some, p_toBoxS _ h]
theorem p_toLeafS (a : List TLeaf) (ha : a.length ≤ 1048576) (hd : ∀ x ∈ a, x.Defects.length ≤ 1048576) : G.l_toLeafS a = some a := by
  unfold G.l_toLeafS
  rw [if_pos (makeOk_of ha (by omega)), copy_loop a _ _ ?_ ?_]
  · rfl
  · intro i o hi ho
    simp only [G.l_toLeafS.s0, Int.toNat_natCast]
    rw [decide_eq_true (by omega), cond_true, if_pos ⟨by omega, by omega⟩, p_toLeaf _ (hd _ (getD_mem hi))]
    simp only [Option.bind_some]
    rw [if_pos ⟨by omega, by omega⟩, wrap64 (by omega) (by omega)]
    rfl
  · intro o
    simp only [G.l_toLeafS.s0]
    rw [decide_eq_false (by omega), cond_false]
theorem p_eqBoxS (a : List TBox) (ha : a.length ≤ 1000000000) : G.l_eqBoxS a a = some true := by
  unfold G.l_eqBoxS
  rw [decide_eq_true rfl]
  have h := iter_scan (step := G.l_eqBoxS.s0 a a) (n := a.length) (p := fun i => true) (v := ()) (r := false) ?_ ?_ a.length 0 (by omega)
  · rw [show ((0 : Nat) : Int) = 0 from rfl] at h
    have hall : ((List.range' 0 a.length).all fun i => true) = true := by simp
    rw [h, if_pos hall]
    rfl
  · intro i hi
    simp only [G.l_eqBoxS.s0, G.l_eqBox, decide_true, cond_true, Option.bind_some]
    rw [decide_eq_true (by omega), cond_true, if_pos ⟨by omega, by omega⟩, if_pos ⟨by omega, by omega⟩, wrap64 (by omega) (by omega)]
    rfl
  · simp only [G.l_eqBoxS.s0]
    rw [decide_eq_false (by omega), cond_false]
theorem p_eqLeafS (a : List TLeaf) (ha : a.length ≤ 1000000000) (hd : ∀ x ∈ a, x.Defects.length ≤ 1048576) : G.l_eqLeafS a a = some true := by
  unfold G.l_eqLeafS
  rw [decide_eq_true rfl]
  have h := iter_scan (step := G.l_eqLeafS.s0 a a) (n := a.length) (p := fun i => true) (v := ()) (r := false) ?_ ?_ a.length 0 (by omega)
  · rw [show ((0 : Nat) : Int) = 0 from rfl] at h
    have hall : ((List.range' 0 a.length).all fun i => true) = true := by simp
    rw [h, if_pos hall]
    rfl
  · intro i hi
    have hb := p_eqBoxS (a.getD i default).Defects (by have := hd _ (getD_mem hi); omega)
    simp only [G.l_eqLeafS.s0, G.l_eqLeaf, G.l_eqVeneer, decide_true, cond_true, Option.bind_some, Int.toNat_natCast, hb]
    rw [decide_eq_true (by omega), cond_true, if_pos ⟨by omega, by omega⟩, if_pos ⟨by omega, by omega⟩, wrap64 (by omega) (by omega)]
    rfl
  · simp only [G.l_eqLeafS.s0]
    rw [decide_eq_false (by omega), cond_false]
theorem p_szLeaf (x : TLeaf) (h : fitLeaf x) (left : Int) (h1 : 0 ≤ left) (h2 : left ≤ 1048576) : ∃ q, G.l_szLeaf x.Id x.Flitch x.Number x.Veneer.Species x.Veneer.Shade x.Veneer.Grain x.Width x.Length x.Defects left = some q ∧ q ≤ left ∧ (0 ≤ q → x.Defects.length ≤ 1048576) := by
  obtain ⟨ha, hb, hc, _, _, hd⟩ := h
  unfold G.l_szLeaf
  rw [wrap64 (x := left - (x.Id.size : Int)) (by omega) (by omega)]
  by_cases c1 : left - (x.Id.size : Int) < 0
  · exact ⟨-1, by rw [decide_eq_true c1]; rfl, by omega, by omega⟩
  · rw [decide_eq_false c1, cond_false, wrap64 (x := left - (x.Id.size : Int) - (x.Flitch.size : Int)) (by omega) (by omega)]
    by_cases c2 : left - (x.Id.size : Int) - (x.Flitch.size : Int) < 0
    · exact ⟨-1, by rw [decide_eq_true c2]; rfl, by omega, by omega⟩
    · rw [decide_eq_false c2, cond_false]
      unfold G.l_szVeneer
      rw [wrap64 (x := left - (x.Id.size : Int) - (x.Flitch.size : Int) - (x.Veneer.Species.size : Int)) (by omega) (by omega)]
      by_cases c3 : left - (x.Id.size : Int) - (x.Flitch.size : Int) - (x.Veneer.Species.size : Int) < 0
      · rw [decide_eq_true c3]
        exact ⟨-1, rfl, by omega, by omega⟩
      · rw [decide_eq_false c3]
        simp only [cond_false, Option.bind_some]
        rw [decide_eq_false c3]
        simp only [cond_false]
        unfold G.l_szBoxS
        rw [wrap64 (x := left - (x.Id.size : Int) - (x.Flitch.size : Int) - (x.Veneer.Species.size : Int) - (x.Defects.length : Int)) (by omega) (by omega)]
        by_cases c4 : left - (x.Id.size : Int) - (x.Flitch.size : Int) - (x.Veneer.Species.size : Int) - (x.Defects.length : Int) < 0
        · rw [decide_eq_true c4]
          exact ⟨-1, rfl, by omega, by omega⟩
        · rw [decide_eq_false c4]
          simp only [cond_false, Option.bind_some]
          rw [decide_eq_false c4]
          exact ⟨_, rfl, by omega, by omega⟩
theorem p_szLeafS (a : List TLeaf) (ha : ∀ x ∈ a, fitLeaf x) (hn : a.length ≤ 9223372036854775807) (left : Int) (g1 : 0 ≤ left) (g2 : left ≤ 1048576) : ∃ q, G.l_szLeafS a left = some q ∧ (0 ≤ q → a.length ≤ 1048576 ∧ ∀ x ∈ a, x.Defects.length ≤ 1048576) := by
  unfold G.l_szLeafS
  rw [wrap64 (by omega) (by omega)]
  by_cases c1 : left - (a.length : Int) < 0
  · exact ⟨-1, by rw [decide_eq_true c1]; rfl, by omega⟩
  · rw [decide_eq_false c1]
    simp only [cond_false]
    have hh := iter_exit (step := G.l_szLeafS.s0 a) (n := a.length) (g := fun o => o) (fun i l => 0 ≤ l ∧ l ≤ 1048576 ∧ ∀ j, j < i → (a.getD j default).Defects.length ≤ 1048576) (fun r => r = -1) ?_ ?_ a.length 0 (left - (a.length : Int)) (by omega) ⟨by omega, by omega, fun j hj => by omega⟩
    · rw [show ((0 : Nat) : Int) = 0 from rfl] at hh
      rcases hh with ⟨l, hl, h⟩ | ⟨r, hr, h⟩
      · refine ⟨l, by rw [h]; rfl, fun _ => ⟨by omega, fun x hx => ?_⟩⟩
        obtain ⟨i, hi, e⟩ := List.mem_iff_getElem.1 hx
        have := hl.2.2 i hi
        rwa [List.getD_eq_getElem?_getD, List.getElem?_eq_getElem hi, Option.getD_some, e] at this
      · exact ⟨r, by rw [h]; rfl, fun _ => by omega⟩
    · rintro i l hi ⟨h1, h2, h6⟩
      obtain ⟨q, h4, h5, h7⟩ := p_szLeaf _ (ha _ (getD_mem hi)) l h1 h2
      simp only [G.l_szLeafS.s0]
      rw [decide_eq_true (by omega), cond_true, if_pos ⟨by omega, by omega⟩, wrap64 (by omega) (by omega)]
      simp only [Int.toNat_natCast]
      rw [h4]
      by_cases c2 : q < 0
      · exact .inr ⟨-1, by simp [c2], rfl⟩
      · refine .inl ⟨q, by simp [c2], by omega, by omega, fun j hj => ?_⟩
        by_cases e : j = i
        · subst e; exact h7 (by omega)
        · exact h6 j (by omega)
    · rintro l _
      simp only [G.l_szLeafS.s0]
      rw [decide_eq_false (by omega), cond_false]
/-- A box on a leaf. -/
def boxB (b : TBox) (w l : Int) : Bool := inR b.X 0 w && (inR b.Y 0 l && (inR b.Width 1 (w - b.X) && inR b.Length 1 (l - b.Y)))
theorem p_l09Box (b : TBox) (w l : Int) (hw : 0 ≤ w ∧ w ≤ 20000) (hl : 0 ≤ l ∧ l ≤ 20000) : G.s_l09Box b.X b.Y b.Width b.Length w l = some (boxB b w l) ∧ G.i_boxWithin b.X b.Y b.Width b.Length w l = some (boxB b w l) := by
  unfold G.s_l09Box G.i_boxWithin boxB
  simp only [p_l00In, p_within, Option.bind_some]
  cases h1 : inR b.X 0 w
  · exact ⟨rfl, rfl⟩
  · have hx : 0 ≤ b.X ∧ b.X ≤ w := by unfold inR at h1; simpa using h1
    cases h2 : inR b.Y 0 l
    · exact ⟨rfl, rfl⟩
    · have hy : 0 ≤ b.Y ∧ b.Y ≤ l := by unfold inR at h2; simpa using h2
      simp only [cond_true, Option.bind_some, Bool.true_and]
      rw [wrap64 (x := w - b.X) (by omega) (by omega), wrap64 (x := l - b.Y) (by omega) (by omega)]
      cases inR b.Width 1 (w - b.X) <;> exact ⟨rfl, rfl⟩
/-- What the two programs call a valid leaf. -/
def leafB (x : TLeaf) (v : Bool) : Bool := nameOk x.Id && (nameOk x.Flitch && (inR x.Number 0 999 && (v && (inR x.Width 10 20000 && (inR x.Length 10 20000 && (!decide ((6 : Int) < ((x.Defects.length : Nat) : Int)) && x.Defects.all fun b => boxB b x.Width x.Length))))))
theorem all_range {α : Type} [Inhabited α] (a : List α) (p : α → Bool) : ((List.range' 0 a.length).all fun i => p (a.getD i default)) = a.all p := by
  rw [Bool.eq_iff_iff, List.all_eq_true, List.all_eq_true]
  constructor
  · intro h x hx
    obtain ⟨i, hi, e⟩ := List.mem_iff_getElem.1 hx
    have := h i (by simp; omega)
    rwa [List.getD_eq_getElem?_getD, List.getElem?_eq_getElem hi, Option.getD_some, e] at this
  · intro h i hi
    have : i < a.length := by simpa using hi
    exact h _ (getD_mem this)
theorem s_boxes (w l : Int) (ds : List TBox) (hw : 0 ≤ w ∧ w ≤ 20000) (hl : 0 ≤ l ∧ l ≤ 20000) (hn : ds.length ≤ 1000000000) : iter (G.s_l09One.s0 w l ds) (0 : Int) = some (if (ds.all fun b => boxB b w l) = true then .inl () else .inr false) := by
  have h := iter_scan (step := G.s_l09One.s0 w l ds) (n := ds.length) (p := fun i => boxB (ds.getD i default) w l) (v := ()) (r := false) ?_ ?_ ds.length 0 (by omega)
  · rw [show ((0 : Nat) : Int) = 0 from rfl, all_range ds (fun b => boxB b w l)] at h
    exact h
  · intro i hi
    simp only [G.s_l09One.s0, Int.toNat_natCast]
    rw [decide_eq_true (by omega), cond_true, if_pos ⟨by omega, by omega⟩, (p_l09Box _ w l hw hl).1, wrap64 (by omega) (by omega)]
    simp only [Option.bind_some]
    cases boxB (ds.getD i default) w l <;> rfl
  · simp only [G.s_l09One.s0]
    rw [decide_eq_false (by omega), cond_false]
/-- Whether one is found: slices.ContainsFunc. -/
theorem find_loop {α : Type} [Inhabited α] (ds : List α) (p : α → Bool) (hn : ds.length ≤ 1000000000) (step : Int → Option (Int ⊕ (Unit ⊕ Int)))
    (hs : ∀ i : Nat, i < ds.length → step (i : Int) = if p (ds.getD i default) = true then some (.inr (.inr (i : Int))) else some (.inl ((i + 1 : Nat) : Int))) (he : step (ds.length : Int) = some (.inr (.inl ()))) :
    ((jn (iter step (0 : Int)) fun _ => (some (-1 : Int))).bind fun q => (some (decide ((0 : Int) ≤ q)))) = some (ds.any p) := by
  have h := iter_go (A := Unit) (step := step) (n := ds.length) (g := fun _ => ()) (fun i _ => (i : Int)) (fun i _ => ∀ j, j < i → p (ds.getD j default) = false) (fun r => 0 ≤ r ∧ ds.any p = true) ?_ ?_ ds.length 0 () (by omega) (fun j hj => by omega)
  · rw [show ((0 : Nat) : Int) = 0 from rfl] at h
    rcases h with ⟨_, h1, h2⟩ | ⟨r, ⟨h1, h3⟩, h2⟩
    · rw [h2]
      have : ds.any p = false := by
        rw [List.any_eq_false]
        intro x hx
        obtain ⟨i, hi, e⟩ := List.mem_iff_getElem.1 hx
        have := h1 i hi
        rw [List.getD_eq_getElem?_getD, List.getElem?_eq_getElem hi, Option.getD_some, e] at this
        rw [this]
        exact Bool.false_ne_true
      rw [this]
      rfl
    · rw [h2, h3]
      simp only [jn, Option.bind_some, Sum.elim_inr]
      rw [decide_eq_true h1]
  · intro i _ hi hI
    rw [hs i hi]
    cases hb : p (ds.getD i default)
    · refine .inl ⟨(), rfl, fun j hj => ?_⟩
      by_cases e : j = i
      · subst e; exact hb
      · exact hI j (by omega)
    · refine .inr ⟨(i : Int), rfl, by omega, ?_⟩
      rw [List.any_eq_true]
      exact ⟨_, getD_mem hi, hb⟩
  · intro _ _
    rw [he]
theorem i_boxes (x : TLeaf) (hw : 0 ≤ x.Width ∧ x.Width ≤ 20000) (hl : 0 ≤ x.Length ∧ x.Length ≤ 20000) (hn : x.Defects.length ≤ 1000000000) : G.slices_ContainsFunc_i_Box_i_Box_1_i_ValidLeaf_1 x.Defects x.Id x.Flitch x.Number x.Veneer.Species x.Veneer.Shade x.Veneer.Grain x.Width x.Length x.Defects = some (x.Defects.any fun b => !(boxB b x.Width x.Length)) := by
  unfold G.slices_ContainsFunc_i_Box_i_Box_1_i_ValidLeaf_1 G.slices_IndexFunc_i_Box_i_Box_1_i_ValidLeaf_1
  refine find_loop x.Defects (fun b => !(boxB b x.Width x.Length)) hn _ ?_ ?_
  · intro i hi
    simp only [G.slices_IndexFunc_i_Box_i_Box_1_i_ValidLeaf_1.s0, G.i_ValidLeaf_1, Int.toNat_natCast]
    rw [decide_eq_true (by omega), cond_true, if_pos ⟨by omega, by omega⟩, (p_l09Box _ _ _ hw hl).2, wrap64 (by omega) (by omega)]
    simp only [Option.bind_some]
    cases boxB (x.Defects.getD i default) x.Width x.Length <;> rfl
  · simp only [G.slices_IndexFunc_i_Box_i_Box_1_i_ValidLeaf_1.s0]
    rw [decide_eq_false (by omega), cond_false]
theorem not_any (ds : List TBox) (w l : Int) : (!(ds.any fun b => !(boxB b w l))) = ds.all fun b => boxB b w l := by
  induction ds with
  | nil => rfl
  | cons b ds ih => simp only [List.any_cons, List.all_cons, Bool.not_or, Bool.not_not, ih]
/-- What a valid leaf keeps to. -/
structure LeafR (x : TLeaf) : Prop where
  w : 10 ≤ x.Width ∧ x.Width ≤ 20000
  l : 10 ≤ x.Length ∧ x.Length ≤ 20000
  n : x.Defects.length ≤ 6
  d : ∀ b ∈ x.Defects, 0 ≤ b.X ∧ 0 ≤ b.Y ∧ 1 ≤ b.Width ∧ 1 ≤ b.Length ∧ b.X + b.Width ≤ x.Width ∧ b.Y + b.Length ≤ x.Length
  sh : 0 ≤ x.Veneer.Shade ∧ x.Veneer.Shade ≤ 100
  gr : 0 ≤ x.Veneer.Grain ∧ x.Veneer.Grain ≤ 179
theorem inR_iff {n lo hi : Int} : inR n lo hi = true ↔ lo ≤ n ∧ n ≤ hi := by unfold inR; simp
theorem p_leaf (x : TLeaf) (h : fitLeaf x) : ∃ b, G.s_l09One x.Id x.Flitch x.Number x.Veneer.Species x.Veneer.Shade x.Veneer.Grain x.Width x.Length x.Defects = some b ∧ G.i_ValidLeaf x.Id x.Flitch x.Number x.Veneer.Species x.Veneer.Shade x.Veneer.Grain x.Width x.Length x.Defects = some b ∧ (b = true → LeafR x) := by
  obtain ⟨ha, hb, hc, hs1, hs2, hd⟩ := h
  obtain ⟨v, v1, v2, v3⟩ := p_veneer3 x.Veneer.Species x.Veneer.Shade x.Veneer.Grain ⟨hs1, hs2⟩
  unfold G.s_l09One G.i_ValidLeaf
  rw [p_l01Name _ ha, p_IsName _ ha, p_l01Name _ hb, p_IsName _ hb, v1, v2]
  simp only [p_l00In, p_within, Option.bind_some]
  cases nameOk x.Id
  · exact ⟨false, rfl, rfl, fun h => by cases h⟩
  · cases nameOk x.Flitch
    · exact ⟨false, rfl, rfl, fun h => by cases h⟩
    · cases inR x.Number 0 999
      · exact ⟨false, rfl, rfl, fun h => by cases h⟩
      · cases hv : v
        · exact ⟨false, rfl, rfl, fun h => by cases h⟩
        · cases h1 : inR x.Width 10 20000
          · exact ⟨false, rfl, rfl, fun h => by cases h⟩
          · cases h2 : inR x.Length 10 20000
            · exact ⟨false, rfl, rfl, fun h => by cases h⟩
            · by_cases h3 : (6 : Int) < ((x.Defects.length : Nat) : Int)
              · simp only [decide_eq_true h3, cond_true, cond_false, Bool.not_true, Option.bind_some]
                exact ⟨false, rfl, rfl, fun h => by cases h⟩
              · have w := inR_iff.1 h1
                have l := inR_iff.1 h2
                simp only [decide_eq_false h3, cond_true, cond_false, Bool.not_true, Option.bind_some]
                rw [s_boxes _ _ _ ⟨by omega, by omega⟩ ⟨by omega, by omega⟩ (by omega), i_boxes x ⟨by omega, by omega⟩ ⟨by omega, by omega⟩ (by omega)]
                simp only [Option.bind_some, not_any]
                cases h4 : x.Defects.all fun b => boxB b x.Width x.Length
                · exact ⟨false, rfl, rfl, fun h => by cases h⟩
                · obtain ⟨_, sh, gr⟩ := v3 hv
                  refine ⟨true, rfl, rfl, fun _ => ⟨w, l, by omega, fun b hb => ?_, inR_iff.1 sh, inR_iff.1 gr⟩⟩
                  have := List.all_eq_true.1 h4 b hb
                  unfold boxB at this
                  simp only [Bool.and_eq_true, inR_iff] at this
                  omega
end Go.Proofs.Ytnhgffhnfegiiaa.Fw
namespace Go.Proofs.Ytnhgffhnfegiiaa.Fw
open Go.RowKit
set_option linter.unusedVariables false
set_option linter.unusedSimpArgs false
theorem getD_eq {α : Type} [Inhabited α] {l : List α} {i : Nat} (h : i < l.length) : l.getD i default = l[i] := by
  rw [List.getD_eq_getElem?_getD, List.getElem?_eq_getElem h, Option.getD_some]
theorem p_l00Put (l : List Int) (n : Int) (hl : l.length ≤ 1000) : G.s_l00Put l n = some (ins n l) := by
  have h := iter_go (step := G.s_l00Put.s0 l n) (n := l.length) (A := List Int × Bool) (g := fun a => a) (fun i a => (a.1, a.2, (i : Int)))
    (fun i a => a.1.length ≤ i + 1 ∧ ins n l = a.1 ++ (if a.2 = true then l.drop i else ins n (l.drop i))) (fun _ => False) ?_ ?_ l.length 0 ([], false) (by omega) ⟨by simp, by simp⟩
  · rcases h with ⟨⟨out, done⟩, ⟨h1, h2⟩, h⟩ | ⟨r, hr, _⟩
    · simp only at h1 h2
      have h : iter (G.s_l00Put.s0 l n) (([] : List Int), false, (0 : Int)) = _ := h
      unfold G.s_l00Put
      rw [h]
      simp only [jn, Option.bind_some, Sum.elim_inl]
      rw [List.drop_length] at h2
      cases done
      · simp only [cond_false]
        rw [if_pos ⟨by omega, by omega⟩, h2]
        rfl
      · simp only [cond_true, Option.bind_some]
        rw [h2]
        simp
    · exact hr.elim
  · rintro i ⟨out, done⟩ hi ⟨h1, h2⟩
    simp only at h1 h2
    have hd : l.drop i = l[i] :: l.drop (i + 1) := (List.getElem_cons_drop ..).symm
    have hc : 0 ≤ (i : Int) ∧ (i : Int) < ((l.length : Nat) : Int) := ⟨by omega, by omega⟩
    have hw : IntKind.wrap .i64 ((i : Int) + 1) = ((i + 1 : Nat) : Int) := by rw [wrap64 (by omega) (by omega)]; omega
    simp only [G.s_l00Put.s0, if_pos hc, Int.toNat_natCast, hw, getD_eq hi]
    rw [decide_eq_true (by omega), cond_true]
    rw [hd] at h2
    cases done
    · simp only [cond_false, Option.bind_some]
      by_cases c1 : n ≤ l[i]
      · rw [decide_eq_true c1]
        simp only [cond_true]
        by_cases c2 : n < l[i]
        · rw [decide_eq_true c2]
          simp only [cond_true]
          rw [if_pos ⟨by omega, by omega⟩]
          simp only [Option.bind_some]
          rw [if_pos ⟨by simp only [List.length_append, List.length_cons, List.length_nil]; omega, by simp only [List.length_append, List.length_cons, List.length_nil]; omega⟩]
          refine .inl ⟨(out ++ [n] ++ [l[i]], true), rfl, ?_, ?_⟩
          · have : out.length ≤ i := by
              rw [if_neg (by decide)] at h2
              have e := congrArg List.length h2
              rw [List.length_append] at e
              have := ins_len n l
              have h3 : (ins n (l[i] :: l.drop (i + 1))).length = (l.drop (i + 1)).length + 2 := by rw [ins, if_pos c1, if_pos c2]; rfl
              rw [h3, List.length_drop] at e
              omega
            simp only [List.length_append, List.length_cons, List.length_nil]; omega
          · rw [h2, if_neg (by decide), ins, if_pos c1, if_pos c2]
            simp
        · rw [decide_eq_false c2]
          simp only [cond_false, Option.bind_some]
          rw [if_pos ⟨by omega, by omega⟩]
          refine .inl ⟨(out ++ [l[i]], true), rfl, by simp only [List.length_append, List.length_cons, List.length_nil]; omega, ?_⟩
          rw [h2, if_neg (by decide), ins, if_pos c1, if_neg c2]
          simp
      · rw [decide_eq_false c1]
        simp only [cond_false, Option.bind_some]
        rw [if_pos ⟨by omega, by omega⟩]
        refine .inl ⟨(out ++ [l[i]], false), rfl, by simp only [List.length_append, List.length_cons, List.length_nil]; omega, ?_⟩
        rw [h2, if_neg (by decide), ins, if_neg c1]
        simp
    · simp only [cond_true, Option.bind_some, cond_false]
      rw [if_pos ⟨by omega, by omega⟩]
      refine .inl ⟨(out ++ [l[i]], true), rfl, by simp only [List.length_append, List.length_cons, List.length_nil]; omega, ?_⟩
      rw [h2, if_pos rfl]
      simp
  · rintro ⟨out, done⟩ _
    simp only [G.s_l00Put.s0]
    rw [decide_eq_false (by omega), cond_false]
/-- Where something begins or ends. -/
def cutP (ds : List TBox) (p q : TBox → Int) (W : Int) (i : Nat) (z : Int) : Prop := z = 0 ∨ z = W ∨ ∃ j, j < i ∧ (z = p (ds.getD j default) ∨ z = q (ds.getD j default))
theorem cutP_succ (ds : List TBox) (p q : TBox → Int) (W : Int) (i : Nat) (z : Int) : cutP ds p q W (i + 1) z ↔ cutP ds p q W i z ∨ z = p (ds.getD i default) ∨ z = q (ds.getD i default) := by
  unfold cutP
  constructor
  · rintro (h | h | ⟨j, h1, h2⟩)
    · exact .inl (.inl h)
    · exact .inl (.inr (.inl h))
    · by_cases e : j = i
      · subst e; exact .inr h2
      · exact .inl (.inr (.inr ⟨j, by omega, h2⟩))
  · rintro ((h | h | ⟨j, h1, h2⟩) | h)
    · exact .inl h
    · exact .inr (.inl h)
    · exact .inr (.inr ⟨j, by omega, h2⟩)
    · exact .inr (.inr ⟨i, by omega, h⟩)
theorem put_loop (ds : List TBox) (p q : TBox → Int) (W : Int) (hW : 0 < W) (hn : ds.length ≤ 6) (step : List Int × Int → Option ((List Int × Int) ⊕ (List Int ⊕ List Int)))
    (hs : ∀ (i : Nat) (o : List Int), i < ds.length → o.length ≤ 100 → step (o, (i : Int)) = some (.inl (ins (q (ds.getD i default)) (ins (p (ds.getD i default)) o), ((i + 1 : Nat) : Int)))) (he : ∀ o, step (o, (ds.length : Int)) = some (.inr (.inl o))) :
    ∃ o, iter step (([0, W] : List Int), (0 : Int)) = some (.inl o) ∧ o.Pairwise (· < ·) ∧ o.length ≤ 14 ∧ ∀ z, z ∈ o ↔ cutP ds p q W ds.length z := by
  have h := iter_inv (step := step) (n := ds.length) (g := fun o => o) (fun i o => o.Pairwise (· < ·) ∧ o.length ≤ 2 + 2 * i ∧ ∀ z, z ∈ o ↔ cutP ds p q W i z) ?_ ?_ ds.length 0 [0, W] (by omega) ⟨by simp [hW], by simp, fun z => by simp [cutP]⟩
  · obtain ⟨o, ⟨h1, h2, h3⟩, h⟩ := h
    exact ⟨o, h, h1, by omega, h3⟩
  · rintro i o hi ⟨h1, h2, h3⟩
    refine ⟨_, hs i o hi (by omega), ins_lt _ _ (ins_lt _ _ h1), ?_, fun z => ?_⟩
    · have a := ins_len (q (ds.getD i default)) (ins (p (ds.getD i default)) o)
      have b := ins_len (p (ds.getD i default)) o
      omega
    · rw [mem_ins, mem_ins, h3, cutP_succ]
      constructor
      · rintro (h | h | h)
        · exact .inr (.inr h)
        · exact .inr (.inl h)
        · exact .inl h
      · rintro (h | h | h)
        · exact .inr (.inr h)
        · exact .inr (.inl h)
        · exact .inl h
  · rintro o _
    exact he o
theorem p_Xs (x : TLeaf) (h : LeafR x) : ∃ o, G.s_l09Xs x.Id x.Flitch x.Number x.Veneer.Species x.Veneer.Shade x.Veneer.Grain x.Width x.Length x.Defects = some o ∧ o.Pairwise (· < ·) ∧ o.length ≤ 14 ∧ ∀ z, z ∈ o ↔ cutP x.Defects (·.X) (fun b => b.X + b.Width) x.Width x.Defects.length z := by
  have hn := h.n
  have hh := put_loop x.Defects (·.X) (fun b => b.X + b.Width) x.Width (by have := h.w; omega) h.n (G.s_l09Xs.s0 x.Defects) ?_ ?_
  · obtain ⟨o, h1, h2⟩ := hh
    refine ⟨o, ?_, h2⟩
    unfold G.s_l09Xs
    rw [h1]
    rfl
  · intro i o hi ho
    have hb := h.d _ (getD_mem hi)
    have hw := h.w
    have hl := ins_len (x.Defects.getD i default).X o
    simp only [G.s_l09Xs.s0, Int.toNat_natCast]
    rw [decide_eq_true (by omega), cond_true, if_pos ⟨by omega, by omega⟩, p_l00Put _ _ (by omega)]
    simp only [Option.bind_some]
    rw [if_pos ⟨by omega, by omega⟩, if_pos ⟨by omega, by omega⟩, wrap64 (x := (x.Defects.getD i default).X + (x.Defects.getD i default).Width) (by omega) (by omega), p_l00Put _ _ (by omega), wrap64 (by omega) (by omega)]
    rfl
  · intro o
    simp only [G.s_l09Xs.s0]
    rw [decide_eq_false (by omega), cond_false]
theorem p_Ys (x : TLeaf) (h : LeafR x) : ∃ o, G.s_l09Ys x.Id x.Flitch x.Number x.Veneer.Species x.Veneer.Shade x.Veneer.Grain x.Width x.Length x.Defects = some o ∧ o.Pairwise (· < ·) ∧ o.length ≤ 14 ∧ ∀ z, z ∈ o ↔ cutP x.Defects (·.Y) (fun b => b.Y + b.Length) x.Length x.Defects.length z := by
  have hn := h.n
  have hh := put_loop x.Defects (·.Y) (fun b => b.Y + b.Length) x.Length (by have := h.l; omega) h.n (G.s_l09Ys.s0 x.Defects) ?_ ?_
  · obtain ⟨o, h1, h2⟩ := hh
    refine ⟨o, ?_, h2⟩
    unfold G.s_l09Ys
    rw [h1]
    rfl
  · intro i o hi ho
    have hb := h.d _ (getD_mem hi)
    have hw := h.l
    have hl := ins_len (x.Defects.getD i default).Y o
    simp only [G.s_l09Ys.s0, Int.toNat_natCast]
    rw [decide_eq_true (by omega), cond_true, if_pos ⟨by omega, by omega⟩, p_l00Put _ _ (by omega)]
    simp only [Option.bind_some]
    rw [if_pos ⟨by omega, by omega⟩, if_pos ⟨by omega, by omega⟩, wrap64 (x := (x.Defects.getD i default).Y + (x.Defects.getD i default).Length) (by omega) (by omega), p_l00Put _ _ (by omega), wrap64 (by omega) (by omega)]
    rfl
  · intro o
    simp only [G.s_l09Ys.s0]
    rw [decide_eq_false (by omega), cond_false]
theorem cutP_le (x : TLeaf) (h : LeafR x) {z : Int} (hz : cutP x.Defects (·.X) (fun b => b.X + b.Width) x.Width x.Defects.length z) : 0 ≤ z ∧ z ≤ 20000 := by
  have hw := h.w
  rcases hz with rfl | rfl | ⟨j, hj, h2⟩
  · omega
  · omega
  · have := h.d _ (getD_mem hj)
    simp only at h2
    omega
theorem cutP_leY (x : TLeaf) (h : LeafR x) {z : Int} (hz : cutP x.Defects (·.Y) (fun b => b.Y + b.Length) x.Length x.Defects.length z) : 0 ≤ z ∧ z ≤ 20000 := by
  have hw := h.l
  rcases hz with rfl | rfl | ⟨j, hj, h2⟩
  · omega
  · omega
  · have := h.d _ (getD_mem hj)
    simp only at h2
    omega
/-- The program's lists before they are sorted. -/
theorem i_cuts (x : TLeaf) (h : LeafR x) : ∃ xs ys : List Int, iter (G.i_UsableArea.s0 x.Defects) (([(0 : Int), x.Width] : List Int), ([(0 : Int), x.Length] : List Int), (0 : Int)) = some (.inl (xs, ys)) ∧ xs.length ≤ 14 ∧ ys.length ≤ 14 ∧
    (∀ z, z ∈ xs ↔ cutP x.Defects (·.X) (fun b => b.X + b.Width) x.Width x.Defects.length z) ∧ (∀ z, z ∈ ys ↔ cutP x.Defects (·.Y) (fun b => b.Y + b.Length) x.Length x.Defects.length z) := by
  have hn := h.n
  have hw := h.w
  have hl := h.l
  have hh := iter_go (step := G.i_UsableArea.s0 x.Defects) (n := x.Defects.length) (A := List Int × List Int) (g := fun a => a) (fun i a => (a.1, a.2, (i : Int)))
    (fun i a => a.1.length = 2 + 2 * i ∧ a.2.length = 2 + 2 * i ∧ (∀ z, z ∈ a.1 ↔ cutP x.Defects (·.X) (fun b => b.X + b.Width) x.Width i z) ∧ (∀ z, z ∈ a.2 ↔ cutP x.Defects (·.Y) (fun b => b.Y + b.Length) x.Length i z)) (fun _ => False) ?_ ?_ x.Defects.length 0 ([0, x.Width], [0, x.Length]) (by omega) ⟨by simp, by simp, fun z => by simp [cutP], fun z => by simp [cutP]⟩
  · rcases hh with ⟨⟨xs, ys⟩, ⟨h1, h2, h3, h4⟩, h⟩ | ⟨r, hr, _⟩
    · simp only at h1 h2
      exact ⟨xs, ys, h, by omega, by omega, h3, h4⟩
    · exact hr.elim
  · rintro i ⟨xs, ys⟩ hi ⟨h1, h2, h3, h4⟩
    simp only at h1 h2 h3 h4
    have hb := h.d _ (getD_mem hi)
    simp only [G.i_UsableArea.s0, Int.toNat_natCast]
    rw [decide_eq_true (by omega), cond_true, if_pos ⟨by omega, by omega⟩, if_pos ⟨by omega, by omega⟩, if_pos ⟨by omega, by omega⟩, wrap64 (x := (x.Defects.getD i default).X + (x.Defects.getD i default).Width) (by omega) (by omega), wrap64 (x := (x.Defects.getD i default).Y + (x.Defects.getD i default).Length) (by omega) (by omega), wrap64 (by omega) (by omega)]
    refine .inl ⟨(xs ++ [(x.Defects.getD i default).X, (x.Defects.getD i default).X + (x.Defects.getD i default).Width], ys ++ [(x.Defects.getD i default).Y, (x.Defects.getD i default).Y + (x.Defects.getD i default).Length]), rfl, ?_, ?_, fun z => ?_, fun z => ?_⟩
    · simp only [List.length_append, List.length_cons, List.length_nil]; omega
    · simp only [List.length_append, List.length_cons, List.length_nil]; omega
    · rw [List.mem_append, h3, cutP_succ]; simp
    · rw [List.mem_append, h4, cutP_succ]; simp
  · rintro ⟨xs, ys⟩ _
    simp only [G.i_UsableArea.s0]
    rw [decide_eq_false (by omega), cond_false]
theorem sortI_le (l : List Int) : (sortI l).Pairwise (· ≤ ·) := by
  have := List.pairwise_mergeSort (le := fun x y : Int => decide (x ≤ y)) (fun a b c h1 h2 => by simp only [decide_eq_true_eq] at *; omega) (fun a b => by simp only [Bool.or_eq_true, decide_eq_true_eq]; omega) l
  exact this.imp (fun h => by simpa using h)
theorem mem_sortI (z : Int) (l : List Int) : z ∈ sortI l ↔ z ∈ l := List.mem_mergeSort
/-- The sorted list without doubles is the rising one. -/
theorem dd_sort {l o : List Int} (ho : o.Pairwise (· < ·)) (h : ∀ z, z ∈ o ↔ z ∈ l) : dd (sortI l) = o :=
  rising_eq _ _ (dd_lt _ (sortI_le l)) ho fun z => by rw [mem_dd, mem_sortI, h]
end Go.Proofs.Ytnhgffhnfegiiaa.Fw
namespace Go.Proofs.Ytnhgffhnfegiiaa.Fw
open Go.RowKit
set_option linter.unusedVariables false
set_option linter.unusedSimpArgs false
def meetB (b : TBox) (x y w l : Int) : Bool := decide (x < b.X + b.Width) && (decide (b.X < x + w) && (decide (y < b.Y + b.Length) && decide (b.Y < y + l)))
def meetI (b : TBox) (x y w l : Int) : Bool := decide (0 < min (b.X + b.Width) (x + w) - max b.X x) && decide (0 < min (b.Y + b.Length) (y + l) - max b.Y y)
theorem meet_eq (b : TBox) (x y w l : Int) (h1 : 1 ≤ b.Width) (h2 : 1 ≤ b.Length) (h3 : 0 < w) (h4 : 0 < l) : meetI b x y w l = meetB b x y w l := by
  unfold meetI meetB
  rw [Bool.eq_iff_iff]
  simp only [Bool.and_eq_true, decide_eq_true_eq]
  omega
/-- Boxes within the greatest leaf. -/
def inBox (b : TBox) : Prop := 0 ≤ b.X ∧ b.X ≤ 20000 ∧ 0 ≤ b.Y ∧ b.Y ≤ 20000 ∧ 0 ≤ b.Width ∧ b.Width ≤ 20000 ∧ 0 ≤ b.Length ∧ b.Length ≤ 20000
theorem any_none (ds : List TBox) (p : TBox → Bool) : (ds.all fun b => !p b) = !(ds.any p) := by
  induction ds with
  | nil => rfl
  | cons b ds ih => simp only [List.any_cons, List.all_cons, Bool.not_or, ih]
theorem p_meet (a b : TBox) (ha : inBox a) (hb : inBox b) : G.s_l09Meet a.X a.Y a.Width a.Length b.X b.Y b.Width b.Length = some (meetB b a.X a.Y a.Width a.Length) := by
  unfold inBox at ha hb
  unfold G.s_l09Meet meetB
  rw [wrap64 (x := b.X + b.Width) (by omega) (by omega), wrap64 (x := a.X + a.Width) (by omega) (by omega), wrap64 (x := b.Y + b.Length) (by omega) (by omega), wrap64 (x := a.Y + a.Length) (by omega) (by omega)]
  by_cases c1 : a.X < b.X + b.Width
  · by_cases c2 : b.X < a.X + a.Width
    · by_cases c3 : a.Y < b.Y + b.Length
      · simp [c1, c2, c3]
      · simp [c1, c2, c3]
    · simp [c1, c2]
  · simp [c1]
theorem p_boxesMeet (b a : TBox) (ha : inBox a) (hb : inBox b) : G.i_UsableArea_1 b.X b.Y b.Width b.Length a.X a.Y a.Width a.Length = some (meetI b a.X a.Y a.Width a.Length) := by
  unfold inBox at ha hb
  unfold G.i_UsableArea_1 G.i_boxesMeet G.i_common meetI
  rw [wrap64 (x := b.X + b.Width) (by omega) (by omega), wrap64 (x := a.X + a.Width) (by omega) (by omega), wrap64 (x := b.Y + b.Length) (by omega) (by omega), wrap64 (x := a.Y + a.Length) (by omega) (by omega)]
  rw [wrap64 (x := min (b.X + b.Width) (a.X + a.Width) - max b.X a.X) (by omega) (by omega), wrap64 (x := min (b.Y + b.Length) (a.Y + a.Length) - max b.Y a.Y) (by omega) (by omega)]
  by_cases c1 : 0 < min (b.X + b.Width) (a.X + a.Width) - max b.X a.X
  · rw [decide_eq_true c1]
    simp only [cond_true, Option.bind_some, Bool.true_and]
  · rw [decide_eq_false c1]
    rfl
theorem p_clear (id fl : ByteArray) (no : Int) (sp : ByteArray) (sh gr wi le : Int) (ds : List TBox) (a : TBox) (ha : inBox a) (hd : ∀ b ∈ ds, inBox b) (hn : ds.length ≤ 1000000000) :
    G.s_l09Clear id fl no sp sh gr wi le ds a.X a.Y a.Width a.Length = some (!(ds.any fun b => meetB b a.X a.Y a.Width a.Length)) := by
  have h := iter_scan (step := G.s_l09Clear.s0 ds a.X a.Y a.Width a.Length) (n := ds.length) (p := fun i => !(meetB (ds.getD i default) a.X a.Y a.Width a.Length)) (v := ()) (r := false) ?_ ?_ ds.length 0 (by omega)
  · rw [show ((0 : Nat) : Int) = 0 from rfl, all_range ds (fun b => !(meetB b a.X a.Y a.Width a.Length)), any_none] at h
    unfold G.s_l09Clear
    rw [h]
    cases ds.any fun b => meetB b a.X a.Y a.Width a.Length <;> rfl
  · intro i hi
    simp only [G.s_l09Clear.s0, Int.toNat_natCast]
    rw [decide_eq_true (by omega), cond_true, if_pos ⟨by omega, by omega⟩, p_meet a _ ha (hd _ (getD_mem hi)), wrap64 (by omega) (by omega)]
    simp only [Option.bind_some]
    cases meetB (ds.getD i default) a.X a.Y a.Width a.Length <;> rfl
  · simp only [G.s_l09Clear.s0]
    rw [decide_eq_false (by omega), cond_false]
theorem p_contains (ds : List TBox) (a : TBox) (ha : inBox a) (hd : ∀ b ∈ ds, inBox b) (hn : ds.length ≤ 1000000000) :
    G.slices_ContainsFunc_i_Box_i_Box_1_i_UsableArea_1 ds a.X a.Y a.Width a.Length = some (ds.any fun b => meetI b a.X a.Y a.Width a.Length) := by
  unfold G.slices_ContainsFunc_i_Box_i_Box_1_i_UsableArea_1 G.slices_IndexFunc_i_Box_i_Box_1_i_UsableArea_1
  refine find_loop ds (fun b => meetI b a.X a.Y a.Width a.Length) hn _ ?_ ?_
  · intro i hi
    simp only [G.slices_IndexFunc_i_Box_i_Box_1_i_UsableArea_1.s0, Int.toNat_natCast]
    rw [decide_eq_true (by omega), cond_true, if_pos ⟨by omega, by omega⟩, p_boxesMeet _ a ha (hd _ (getD_mem hi)), wrap64 (by omega) (by omega)]
    simp only [Option.bind_some]
    cases meetI (ds.getD i default) a.X a.Y a.Width a.Length <;> rfl
  · simp only [G.slices_IndexFunc_i_Box_i_Box_1_i_UsableArea_1.s0]
    rw [decide_eq_false (by omega), cond_false]
/-- What a part of the leaf adds. -/
def partU (m : TBox → Int → Int → Int → Int → Bool) (ds : List TBox) (a b c d : Int) : Int := if (ds.any fun e => m e a c (b - a) (d - c)) = true then 0 else (b - a) * (d - c)
theorem area_le {p q : Int} (h1 : 0 ≤ p) (h2 : p ≤ 20000) (h3 : 0 ≤ q) (h4 : q ≤ 20000) : 0 ≤ p * q ∧ p * q ≤ 400000000 := by
  refine ⟨Int.mul_nonneg h1 h3, ?_⟩
  have := Int.mul_le_mul h2 h4 h3 (by omega)
  omega
theorem partU_le (m : TBox → Int → Int → Int → Int → Bool) (ds : List TBox) {a b c d : Int} (h1 : 0 ≤ a) (h2 : a ≤ b) (h3 : b ≤ 20000) (h4 : 0 ≤ c) (h5 : c ≤ d) (h6 : d ≤ 20000) : 0 ≤ partU m ds a b c d ∧ partU m ds a b c d ≤ 400000000 := by
  unfold partU
  have := area_le (p := b - a) (q := d - c) (by omega) (by omega) (by omega) (by omega)
  split <;> omega
theorem partU_eq (ds : List TBox) (hd : ∀ b ∈ ds, 1 ≤ b.Width ∧ 1 ≤ b.Length) {a b c d : Int} (h2 : a ≤ b) (h5 : c ≤ d) : partU meetI ds a b c d = partU meetB ds a b c d := by
  unfold partU
  by_cases e1 : a = b
  · subst e1
    simp
  · by_cases e2 : c = d
    · subst e2
      simp
    · have : (ds.any fun e => meetI e a c (b - a) (d - c)) = ds.any fun e => meetB e a c (b - a) (d - c) := by
        rw [Bool.eq_iff_iff, List.any_eq_true, List.any_eq_true]
        constructor
        · rintro ⟨x, hx, h⟩
          have := hd x hx
          exact ⟨x, hx, by rwa [meet_eq x _ _ _ _ this.1 this.2 (by omega) (by omega)] at h⟩
        · rintro ⟨x, hx, h⟩
          have := hd x hx
          exact ⟨x, hx, by rwa [meet_eq x _ _ _ _ this.1 this.2 (by omega) (by omega)]⟩
      rw [this]
theorem pairSum_congr (f g : Int → Int → Int) (l : List Int) (hp : l.Pairwise (· ≤ ·)) (h : ∀ a b, a ≤ b → f a b = g a b) : pairSum f l = pairSum g l := by
  match l with
  | [] => rfl
  | [a] => rfl
  | a :: b :: l =>
    have h2 := List.pairwise_cons.1 hp
    rw [pairSum, pairSum, h a b (h2.1 b (List.mem_cons_self ..)), pairSum_congr f g (b :: l) h2.2 h]
termination_by l.length
theorem pairSum_zero (l : List Int) : pairSum (fun _ _ => 0) l = 0 := by
  match l with
  | [] => rfl
  | [a] => rfl
  | a :: b :: l => rw [pairSum, pairSum_zero (b :: l)]; rfl
termination_by l.length
/-- The usable area by cuts. -/
def areaU (m : TBox → Int → Int → Int → Int → Bool) (ds : List TBox) (xs ys : List Int) : Int := pairSum (fun a b => pairSum (fun c d => partU m ds a b c d) ys) xs
theorem areaU_le (m : TBox → Int → Int → Int → Int → Bool) (ds : List TBox) (ys : List Int) (hy : ∀ z ∈ ys, 0 ≤ z ∧ z ≤ 20000) (py : ys.Pairwise (· ≤ ·)) (hn : ys.length ≤ 14) {a b : Int} (h1 : 0 ≤ a) (h2 : a ≤ b) (h3 : b ≤ 20000) :
    0 ≤ pairSum (fun c d => partU m ds a b c d) ys ∧ pairSum (fun c d => partU m ds a b c d) ys ≤ 5600000000 := by
  have h := pairSum_le (fun c d => partU m ds a b c d) 400000000 ys (fun c hc d hd hcd => partU_le m ds h1 h2 h3 (hy c hc).1 hcd (hy d hd).2) py
  have : (ys.length : Int) * 400000000 ≤ 14 * 400000000 := Int.mul_le_mul_of_nonneg_right (by omega) (by omega)
  omega
/-- The two loops over the cuts. -/
theorem cuts_loop {R : Type} (m : TBox → Int → Int → Int → Int → Bool) (ds : List TBox) (xs ys : List Int) (hx : ∀ z ∈ xs, 0 ≤ z ∧ z ≤ 20000) (hy : ∀ z ∈ ys, 0 ≤ z ∧ z ≤ 20000) (px : xs.Pairwise (· ≤ ·)) (py : ys.Pairwise (· ≤ ·))
    (nx : xs.length ≤ 14) (ny : ys.length ≤ 14) (x1 : 1 ≤ xs.length) (y1 : 1 ≤ ys.length) (s0 : Int × Int → Option ((Int × Int) ⊕ (Int ⊕ R))) (s1 : Int → Int × Int → Option ((Int × Int) ⊕ (Int ⊕ ((Int × Int) ⊕ (Int ⊕ R)))))
    (h0 : ∀ (sum i : Int), i < (xs.length : Int) → 1 ≤ i → s0 (sum, i) = (jn (iter (s1 i) (sum, (1 : Int))) fun q => some (.inl (q, IntKind.wrap .i64 (i + 1))))) (e0 : ∀ sum : Int, s0 (sum, (xs.length : Int)) = some (.inr (.inl sum)))
    (h1 : ∀ (i k : Nat) (sum : Int), i + 1 < xs.length → k + 1 < ys.length → 0 ≤ sum → sum ≤ 6000000000000 →
      s1 ((i + 1 : Nat) : Int) (sum, ((k + 1 : Nat) : Int)) = some (.inl (sum + partU m ds (xs.getD i default) (xs.getD (i + 1) default) (ys.getD k default) (ys.getD (k + 1) default), ((k + 1 + 1 : Nat) : Int))))
    (e1 : ∀ (i sum : Int), s1 i (sum, (ys.length : Int)) = some (.inr (.inl sum))) :
    iter s0 ((0 : Int), (1 : Int)) = some (.inl (areaU m ds xs ys)) := by
  have h := iter_pairs (step := s0) xs (fun a b => pairSum (fun c d => partU m ds a b c d) ys) 5600000000 0 x1 (by omega) (fun a ha b hb hab => areaU_le m ds ys hy py ny (hx a ha).1 hab (hx b hb).2) px ?_ e0
  · rw [Int.zero_add] at h
    exact h
  · intro i sum hi b1 b2
    have hxi : xs.getD i default ∈ xs := getD_mem (by omega)
    have hxj : xs.getD (i + 1) default ∈ xs := getD_mem (by omega)
    have hle : xs.getD i default ≤ xs.getD (i + 1) default := by
      rw [getD_eq (by omega), getD_eq (by omega)]
      exact List.pairwise_iff_getElem.1 px i (i + 1) (by omega) (by omega) (by omega)
    have hin := iter_pairs (step := s1 ((i + 1 : Nat) : Int)) ys (fun c d => partU m ds (xs.getD i default) (xs.getD (i + 1) default) c d) 400000000 sum y1 (by omega) (fun c hc d hd hcd => partU_le m ds (hx _ hxi).1 hle (hx _ hxj).2 (hy c hc).1 hcd (hy d hd).2) py
      (fun k s hk g1 g2 => h1 i k s hi hk (by omega) (by omega)) (e1 _)
    rw [h0 _ _ (by omega) (by omega), hin, wrap64 (by omega) (by omega)]
    rfl
theorem s_usable (id fl : ByteArray) (no : Int) (sp : ByteArray) (sh gr wi le : Int) (ds : List TBox) (xs ys : List Int) (hx : ∀ z ∈ xs, 0 ≤ z ∧ z ≤ 20000) (hy : ∀ z ∈ ys, 0 ≤ z ∧ z ≤ 20000) (px : xs.Pairwise (· ≤ ·)) (py : ys.Pairwise (· ≤ ·))
    (nx : xs.length ≤ 14) (ny : ys.length ≤ 14) (x1 : 1 ≤ xs.length) (y1 : 1 ≤ ys.length) (hd : ∀ b ∈ ds, inBox b) (hn : ds.length ≤ 6) :
    iter (G.s_l09Usable.s0 id fl no sp sh gr wi le ds xs ys) ((0 : Int), (1 : Int)) = some (.inl (areaU meetB ds xs ys)) := by
  refine cuts_loop meetB ds xs ys hx hy px py nx ny x1 y1 _ (G.s_l09Usable.s1 id fl no sp sh gr wi le ds xs ys) ?_ ?_ ?_ ?_
  · intro sum i hi h1
    simp only [G.s_l09Usable.s0]
    rw [decide_eq_true hi, cond_true]
  · intro sum
    simp only [G.s_l09Usable.s0]
    rw [decide_eq_false (by omega), cond_false]
  · intro i k sum hi hk b1 b2
    have hwi : IntKind.wrap .i64 (((i + 1 : Nat) : Int) - 1) = (i : Int) := by rw [wrap64 (by omega) (by omega)]; omega
    have hwk : IntKind.wrap .i64 (((k + 1 : Nat) : Int) - 1) = (k : Int) := by rw [wrap64 (by omega) (by omega)]; omega
    have hwn : IntKind.wrap .i64 (((k + 1 : Nat) : Int) + 1) = ((k + 1 + 1 : Nat) : Int) := by rw [wrap64 (by omega) (by omega)]; omega
    have ga := hx _ (getD_mem (l := xs) (i := i) (by omega))
    have gb := hx _ (getD_mem (l := xs) (i := i + 1) (by omega))
    have gc := hy _ (getD_mem (l := ys) (i := k) (by omega))
    have gd := hy _ (getD_mem (l := ys) (i := k + 1) (by omega))
    have hab : xs.getD i default ≤ xs.getD (i + 1) default := by
      rw [getD_eq (by omega), getD_eq (by omega)]
      exact List.pairwise_iff_getElem.1 px i (i + 1) (by omega) (by omega) (by omega)
    have hcd : ys.getD k default ≤ ys.getD (k + 1) default := by
      rw [getD_eq (by omega), getD_eq (by omega)]
      exact List.pairwise_iff_getElem.1 py k (k + 1) (by omega) (by omega) (by omega)
    simp only [G.s_l09Usable.s1, hwi, hwk, hwn, Int.toNat_natCast]
    rw [decide_eq_true (by omega), cond_true, if_pos ⟨by omega, by omega⟩, if_pos ⟨by omega, by omega⟩, if_pos ⟨by omega, by omega⟩, if_pos ⟨by omega, by omega⟩, if_pos ⟨by omega, by omega⟩, if_pos ⟨by omega, by omega⟩]
    unfold partU
    generalize xs.getD i default = a at *
    generalize xs.getD (i + 1) default = b at *
    generalize ys.getD k default = c at *
    generalize ys.getD (k + 1) default = d at *
    have har := area_le (p := b - a) (q := d - c) (by omega) (by omega) (by omega) (by omega)
    rw [wrap64 (x := b - a) (by omega) (by omega), wrap64 (x := d - c) (by omega) (by omega), wrap64 (x := (b - a) * (d - c)) (by omega) (by omega), wrap64 (x := sum + (b - a) * (d - c)) (by omega) (by omega)]
    rw [p_clear id fl no sp sh gr wi le ds ⟨a, c, b - a, d - c⟩ ⟨by simp only; omega, by simp only; omega, by simp only; omega, by simp only; omega, by simp only; omega, by simp only; omega, by simp only; omega, by simp only; omega⟩ hd (by omega)]
    simp only [Option.bind_some]
    cases ds.any fun e => meetB e a c (b - a) (d - c)
    · rfl
    · simp
  · intro i sum
    simp only [G.s_l09Usable.s1]
    rw [decide_eq_false (by omega), cond_false]
theorem i_usable (ds : List TBox) (xs ys : List Int) (hx : ∀ z ∈ xs, 0 ≤ z ∧ z ≤ 20000) (hy : ∀ z ∈ ys, 0 ≤ z ∧ z ≤ 20000) (px : xs.Pairwise (· ≤ ·)) (py : ys.Pairwise (· ≤ ·))
    (nx : xs.length ≤ 14) (ny : ys.length ≤ 14) (x1 : 1 ≤ xs.length) (y1 : 1 ≤ ys.length) (hd : ∀ b ∈ ds, inBox b) (hn : ds.length ≤ 6) :
    iter (G.i_UsableArea.s1 ds xs ys) ((0 : Int), (1 : Int)) = some (.inl (areaU meetI ds xs ys)) := by
  refine cuts_loop meetI ds xs ys hx hy px py nx ny x1 y1 _ (G.i_UsableArea.s2 ds xs ys) ?_ ?_ ?_ ?_
  · intro sum i hi h1
    simp only [G.i_UsableArea.s1]
    rw [decide_eq_true hi, cond_true]
  · intro sum
    simp only [G.i_UsableArea.s1]
    rw [decide_eq_false (by omega), cond_false]
  · intro i k sum hi hk b1 b2
    have hwi : IntKind.wrap .i64 (((i + 1 : Nat) : Int) - 1) = (i : Int) := by rw [wrap64 (by omega) (by omega)]; omega
    have hwk : IntKind.wrap .i64 (((k + 1 : Nat) : Int) - 1) = (k : Int) := by rw [wrap64 (by omega) (by omega)]; omega
    have hwn : IntKind.wrap .i64 (((k + 1 : Nat) : Int) + 1) = ((k + 1 + 1 : Nat) : Int) := by rw [wrap64 (by omega) (by omega)]; omega
    have ga := hx _ (getD_mem (l := xs) (i := i) (by omega))
    have gb := hx _ (getD_mem (l := xs) (i := i + 1) (by omega))
    have gc := hy _ (getD_mem (l := ys) (i := k) (by omega))
    have gd := hy _ (getD_mem (l := ys) (i := k + 1) (by omega))
    have hab : xs.getD i default ≤ xs.getD (i + 1) default := by
      rw [getD_eq (by omega), getD_eq (by omega)]
      exact List.pairwise_iff_getElem.1 px i (i + 1) (by omega) (by omega) (by omega)
    have hcd : ys.getD k default ≤ ys.getD (k + 1) default := by
      rw [getD_eq (by omega), getD_eq (by omega)]
      exact List.pairwise_iff_getElem.1 py k (k + 1) (by omega) (by omega) (by omega)
    simp only [G.i_UsableArea.s2, hwi, hwk, hwn, Int.toNat_natCast]
    rw [decide_eq_true (by omega), cond_true, if_pos ⟨by omega, by omega⟩, if_pos ⟨by omega, by omega⟩, if_pos ⟨by omega, by omega⟩, if_pos ⟨by omega, by omega⟩, if_pos ⟨by omega, by omega⟩, if_pos ⟨by omega, by omega⟩]
    unfold partU
    generalize xs.getD i default = a at *
    generalize xs.getD (i + 1) default = b at *
    generalize ys.getD k default = c at *
    generalize ys.getD (k + 1) default = d at *
    have har := area_le (p := b - a) (q := d - c) (by omega) (by omega) (by omega) (by omega)
    rw [wrap64 (x := b - a) (by omega) (by omega), wrap64 (x := d - c) (by omega) (by omega), wrap64 (x := (b - a) * (d - c)) (by omega) (by omega), wrap64 (x := sum + (b - a) * (d - c)) (by omega) (by omega)]
    rw [p_contains ds ⟨a, c, b - a, d - c⟩ ⟨by simp only; omega, by simp only; omega, by simp only; omega, by simp only; omega, by simp only; omega, by simp only; omega, by simp only; omega, by simp only; omega⟩ hd (by omega)]
    simp only [Option.bind_some]
    cases ds.any fun e => meetI e a c (b - a) (d - c)
    · rfl
    · simp
  · intro i sum
    simp only [G.i_UsableArea.s2]
    rw [decide_eq_false (by omega), cond_false]
theorem areaU_eq (ds : List TBox) (hd : ∀ b ∈ ds, 1 ≤ b.Width ∧ 1 ≤ b.Length) {xs ys o1 o2 : List Int} (px : xs.Pairwise (· ≤ ·)) (py : ys.Pairwise (· ≤ ·)) (h1 : dd xs = o1) (h2 : dd ys = o2) : areaU meetI ds xs ys = areaU meetB ds o1 o2 := by
  subst h1 h2
  unfold areaU
  rw [pairSum_dd _ (fun a => ?_) xs]
  · refine pairSum_congr _ _ xs px fun a b hab => ?_
    rw [pairSum_dd _ (fun c => ?_) ys]
    · exact pairSum_congr _ _ ys py fun c d hcd => partU_eq ds hd hab hcd
    · simp [partU]
  · have : (fun c d => partU meetB ds a a c d) = fun _ _ => 0 := by
      funext c d
      simp [partU]
    rw [this, pairSum_zero]
theorem p_usable (x : TLeaf) (h : LeafR x) (hv : G.i_ValidLeaf x.Id x.Flitch x.Number x.Veneer.Species x.Veneer.Shade x.Veneer.Grain x.Width x.Length x.Defects = some true) :
    ∃ U, G.s_l09Usable x.Id x.Flitch x.Number x.Veneer.Species x.Veneer.Shade x.Veneer.Grain x.Width x.Length x.Defects = some U ∧ G.i_UsableArea x.Id x.Flitch x.Number x.Veneer.Species x.Veneer.Shade x.Veneer.Grain x.Width x.Length x.Defects = some (U, 0) := by
  obtain ⟨o1, a1, a2, a3, a4⟩ := p_Xs x h
  obtain ⟨o2, b1, b2, b3, b4⟩ := p_Ys x h
  obtain ⟨xs, ys, c1, c2, c3, c4, c5⟩ := i_cuts x h
  have hdw : ∀ b ∈ x.Defects, 1 ≤ b.Width ∧ 1 ≤ b.Length := fun b hb => by have := h.d b hb; omega
  have hdi : ∀ b ∈ x.Defects, inBox b := fun b hb => by
    have := h.d b hb; have := h.w; have := h.l
    unfold inBox; omega
  have hx : ∀ z ∈ o1, 0 ≤ z ∧ z ≤ 20000 := fun z hz => cutP_le x h ((a4 z).1 hz)
  have hy : ∀ z ∈ o2, 0 ≤ z ∧ z ≤ 20000 := fun z hz => cutP_leY x h ((b4 z).1 hz)
  have hx' : ∀ z ∈ sortI xs, 0 ≤ z ∧ z ≤ 20000 := fun z hz => cutP_le x h ((c4 z).1 ((mem_sortI z xs).1 hz))
  have hy' : ∀ z ∈ sortI ys, 0 ≤ z ∧ z ≤ 20000 := fun z hz => cutP_leY x h ((c5 z).1 ((mem_sortI z ys).1 hz))
  have l1 : 1 ≤ o1.length := List.length_pos_of_mem ((a4 0).2 (.inl rfl))
  have l2 : 1 ≤ o2.length := List.length_pos_of_mem ((b4 0).2 (.inl rfl))
  have m1 : 1 ≤ xs.length := List.length_pos_of_mem ((c4 0).2 (.inl rfl))
  have m2 : 1 ≤ ys.length := List.length_pos_of_mem ((c5 0).2 (.inl rfl))
  have d1 : dd (sortI xs) = o1 := dd_sort a2 fun z => by rw [a4, c4]
  have d2 : dd (sortI ys) = o2 := dd_sort b2 fun z => by rw [b4, c5]
  refine ⟨areaU meetB x.Defects o1 o2, ?_, ?_⟩
  · unfold G.s_l09Usable
    rw [a1, Option.bind_some, b1, Option.bind_some, s_usable _ _ _ _ _ _ _ _ _ o1 o2 hx hy (lt_le a2) (lt_le b2) a3 b3 l1 l2 hdi h.n]
    rfl
  · unfold G.i_UsableArea
    rw [hv, Option.bind_some, cond_true, c1]
    simp only [jn, Option.bind_some, Sum.elim_inl, G.slices_Sort_int64_int64]
    rw [if_pos (show xs.length < 4611686018427387904 by omega), if_pos (show ys.length < 4611686018427387904 by omega)]
    simp only [Option.bind_some, sortI_len, if_true]
    rw [i_usable x.Defects (sortI xs) (sortI ys) hx' hy' (sortI_le xs) (sortI_le ys) (by rw [sortI_len]; omega) (by rw [sortI_len]; omega) (by rw [sortI_len]; omega) (by rw [sortI_len]; omega) hdi h.n]
    simp only [Option.bind_some, Sum.elim_inl]
    rw [areaU_eq x.Defects hdw (sortI_le xs) (sortI_le ys) d1 d2]
end Go.Proofs.Ytnhgffhnfegiiaa.Fw
namespace Go.Proofs.Ytnhgffhnfegiiaa.Fw
open Go.RowKit
set_option linter.unusedVariables false
set_option linter.unusedSimpArgs false
theorem p_max (a b : Int) : G.s_l00Max a b = some (max a b) := by
  unfold G.s_l00Max
  by_cases h : b < a
  · rw [decide_eq_true h, cond_true, show max a b = a by omega]
  · rw [decide_eq_false h, cond_false, show max a b = b by omega]
theorem p_min (a b : Int) : G.s_l00Min a b = some (min a b) := by
  unfold G.s_l00Min
  by_cases h : a < b
  · rw [decide_eq_true h, cond_true, show min a b = a by omega]
  · rw [decide_eq_false h, cond_false, show min a b = b by omega]
theorem tdiv6 {t : Int} (h1 : 0 ≤ t) (h2 : t ≤ 200) : 0 ≤ t.tdiv 6 ∧ t.tdiv 6 ≤ 200 := by
  rw [Int.tdiv_eq_ediv_of_nonneg h1]; omega
theorem p_contrast (a b : TVeneer) (ha : 0 ≤ a.Shade ∧ a.Shade ≤ 100) (hb : 0 ≤ b.Shade ∧ b.Shade ≤ 100) (ga : 0 ≤ a.Grain ∧ a.Grain ≤ 179) (gb : 0 ≤ b.Grain ∧ b.Grain ≤ 179) :
    ∃ c, G.s_l07Contrast a.Species a.Shade a.Grain b.Species b.Shade b.Grain = some c ∧ G.i_contrast b.Species b.Shade b.Grain a.Species a.Shade a.Grain = some c := by
  have w1 : inR b.Grain 0 179 = true := inR_iff.2 gb
  have w2 : inR a.Grain 0 179 = true := inR_iff.2 ga
  have ht := tdiv6 (t := min (max (a.Grain - b.Grain) (b.Grain - a.Grain)) (180 - max (a.Grain - b.Grain) (b.Grain - a.Grain))) (by omega) (by omega)
  refine ⟨max (a.Shade - b.Shade) (b.Shade - a.Shade) + (min (max (a.Grain - b.Grain) (b.Grain - a.Grain)) (180 - max (a.Grain - b.Grain) (b.Grain - a.Grain))).tdiv 6, ?_, ?_⟩
  · unfold G.s_l07Contrast G.s_l07Angle
    rw [wrap64 (x := a.Shade - b.Shade) (by omega) (by omega), wrap64 (x := b.Shade - a.Shade) (by omega) (by omega), wrap64 (x := a.Grain - b.Grain) (by omega) (by omega), wrap64 (x := b.Grain - a.Grain) (by omega) (by omega)]
    simp only [p_max, p_min, Option.bind_some]
    rw [wrap64 (x := 180 - max (a.Grain - b.Grain) (b.Grain - a.Grain)) (by omega) (by omega), wrap64 (x := (min (max (a.Grain - b.Grain) (b.Grain - a.Grain)) (180 - max (a.Grain - b.Grain) (b.Grain - a.Grain))).tdiv 6) (by omega) (by omega), wrap64 (by omega) (by omega)]
  · unfold G.i_contrast G.i_GrainAngle
    simp only [p_within, w1, w2, Option.bind_some, cond_true, cond_false, Bool.not_true]
    rw [wrap64 (x := a.Shade - b.Shade) (by omega) (by omega), wrap64 (x := b.Shade - a.Shade) (by omega) (by omega), wrap64 (x := a.Grain - b.Grain) (by omega) (by omega), wrap64 (x := b.Grain - a.Grain) (by omega) (by omega)]
    rw [Int.max_comm (b.Grain - a.Grain), Int.max_comm (b.Shade - a.Shade)]
    rw [wrap64 (x := 180 - max (a.Grain - b.Grain) (b.Grain - a.Grain)) (by omega) (by omega), wrap64 (x := (min (max (a.Grain - b.Grain) (b.Grain - a.Grain)) (180 - max (a.Grain - b.Grain) (b.Grain - a.Grain))).tdiv 6) (by omega) (by omega), wrap64 (by omega) (by omega)]
/-- Both lists' tests tell the same. -/
theorem p_leaves (a : List TLeaf) (ha : ∀ x ∈ a, fitLeaf x) (hn : a.length ≤ 1000000000) : ∃ b, G.s_l09Ok a = some b ∧ G.i_ValidLeaves a = some b ∧ (b = true → a.length ≤ 16 ∧ ∀ i, i < a.length → LeafR (a.getD i default) ∧
    G.i_ValidLeaf (a.getD i default).Id (a.getD i default).Flitch (a.getD i default).Number (a.getD i default).Veneer.Species (a.getD i default).Veneer.Shade (a.getD i default).Veneer.Grain (a.getD i default).Width (a.getD i default).Length (a.getD i default).Defects = some true) := by
  have hstep : ∀ i : Nat, i < a.length → ∃ b, G.s_l09Ok.s0 a (i : Int) = (if b = true then some (.inl ((i + 1 : Nat) : Int)) else some (.inr (.inr false))) ∧ G.i_ValidLeaves.s0 a (i : Int) = (if b = true then some (.inl ((i + 1 : Nat) : Int)) else some (.inr (.inr false))) ∧ (b = true → LeafR (a.getD i default) ∧
      G.i_ValidLeaf (a.getD i default).Id (a.getD i default).Flitch (a.getD i default).Number (a.getD i default).Veneer.Species (a.getD i default).Veneer.Shade (a.getD i default).Veneer.Grain (a.getD i default).Width (a.getD i default).Length (a.getD i default).Defects = some true) := by
    intro i hi
    obtain ⟨b, h1, h2, h3⟩ := p_leaf _ (ha _ (getD_mem hi))
    have hd : decide ((i : Int) < ((a.length : Nat) : Int)) = true := by simp; omega
    have hc : 0 ≤ (i : Int) ∧ (i : Int) < ((a.length : Nat) : Int) := ⟨by omega, by omega⟩
    have hw : IntKind.wrap .i64 ((i : Int) + 1) = (i : Int) + 1 := wrap64 (by omega) (by omega)
    have hw2 : IntKind.wrap .i64 ((i : Int) - 1) = (i : Int) - 1 := wrap64 (by omega) (by omega)
    by_cases hb : b = true
    · subst hb
      by_cases h0 : 0 < (i : Int)
      · have hc2 : 0 ≤ (i : Int) - 1 ∧ (i : Int) - 1 < ((a.length : Nat) : Int) := ⟨by omega, by omega⟩
        refine ⟨strLt (a.getD ((i : Int) - 1).toNat default).Id (a.getD i default).Id, ?_, ?_, fun _ => ⟨h3 rfl, h2⟩⟩
        · simp only [G.s_l09Ok.s0, hd, cond_true, if_pos hc, Int.toNat_natCast, h1, Option.bind_some, h0, decide_true, hw, hw2, if_pos hc2]
          rcases Bool.eq_false_or_eq_true (strLt (a.getD ((i : Int) - 1).toNat default).Id (a.getD i default).Id) with e | e <;> simp [e]
        · simp only [G.i_ValidLeaves.s0, hd, cond_true, if_pos hc, Int.toNat_natCast, h2, Option.bind_some, h0, decide_true, hw, hw2, if_pos hc2]
          rcases Bool.eq_false_or_eq_true (strLt (a.getD ((i : Int) - 1).toNat default).Id (a.getD i default).Id) with e | e <;> simp [e]
      · refine ⟨true, ?_, ?_, fun _ => ⟨h3 rfl, h2⟩⟩
        · simp only [G.s_l09Ok.s0, hd, cond_true, if_pos hc, Int.toNat_natCast, h1, Option.bind_some, h0, decide_false, cond_false, hw]
          simp
        · simp only [G.i_ValidLeaves.s0, hd, cond_true, if_pos hc, Int.toNat_natCast, h2, Option.bind_some, h0, decide_false, cond_false, hw]
          simp
    · have hb : b = false := by simpa using hb
      subst hb
      refine ⟨false, ?_, ?_, fun h => by cases h⟩
      · simp only [G.s_l09Ok.s0, hd, cond_true, if_pos hc, Int.toNat_natCast, h1, Option.bind_some, cond_false]
        simp
      · simp only [G.i_ValidLeaves.s0, hd, cond_true, if_pos hc, Int.toNat_natCast, h2, Option.bind_some, cond_false]
        simp
  have hz : decide (((a.length : Nat) : Int) < ((a.length : Nat) : Int)) = false := by simp
  have hend1 : G.s_l09Ok.s0 a (a.length : Int) = some (.inr (.inl ())) := by simp only [G.s_l09Ok.s0, hz, cond_false]
  have hend2 : G.i_ValidLeaves.s0 a (a.length : Int) = some (.inr (.inl ())) := by simp only [G.i_ValidLeaves.s0, hz, cond_false]
  have main : ∀ m k : Nat, k + m = a.length → ∃ e, iter (G.s_l09Ok.s0 a) (k : Int) = some e ∧ iter (G.i_ValidLeaves.s0 a) (k : Int) = some e ∧ ((e = .inl () ∧ ∀ j, k ≤ j → j < a.length → LeafR (a.getD j default) ∧
      G.i_ValidLeaf (a.getD j default).Id (a.getD j default).Flitch (a.getD j default).Number (a.getD j default).Veneer.Species (a.getD j default).Veneer.Shade (a.getD j default).Veneer.Grain (a.getD j default).Width (a.getD j default).Length (a.getD j default).Defects = some true) ∨ e = .inr false) := by
    intro m
    induction m with
    | zero =>
      intro k hk
      have : k = a.length := by omega
      subst this
      exact ⟨_, iter_inr hend1, iter_inr hend2, .inl ⟨rfl, fun j h1 h2 => by omega⟩⟩
    | succ m ih =>
      intro k hk
      obtain ⟨b, h1, h2, h3⟩ := hstep k (by omega)
      cases b with
      | true =>
        obtain ⟨e, h4, h5, h6⟩ := ih (k + 1) (by omega)
        refine ⟨e, (iter_inl (by simpa using h1)).trans h4, (iter_inl (by simpa using h2)).trans h5, h6.imp (fun ⟨h7, h8⟩ => ⟨h7, fun j h9 h10 => ?_⟩) id⟩
        by_cases e : j = k
        · subst e; exact h3 rfl
        · exact h8 j (by omega) h10
      | false => exact ⟨_, iter_inr (by simpa using h1), iter_inr (by simpa using h2), .inr rfl⟩
  obtain ⟨e, h1, h2, h3⟩ := main a.length 0 (by omega)
  have h1 : iter (G.s_l09Ok.s0 a) 0 = some e := h1
  have h2 : iter (G.i_ValidLeaves.s0 a) 0 = some e := h2
  rcases h3 with ⟨rfl, h4⟩ | rfl
  · refine ⟨decide (((a.length : Nat) : Int) ≤ 16), ?_, ?_, fun h => ⟨by have := of_decide_eq_true h; omega, fun i hi => h4 i (Nat.zero_le _) hi⟩⟩
    · unfold G.s_l09Ok; rw [h1]; rfl
    · unfold G.i_ValidLeaves; rw [h2]; rfl
  · refine ⟨false, ?_, ?_, fun h => by cases h⟩
    · unfold G.s_l09Ok; rw [h1]; rfl
    · unfold G.i_ValidLeaves; rw [h2]; rfl
/-- Two loops that step alike. -/
theorem iter_same {A V R : Type} {S : Type} {f g : S → Option (S ⊕ (V ⊕ R))} {n : Nat} (st : Nat → A → S) (out : A → V)
    (hs : ∀ (i : Nat) a, i < n → ∃ a', f (st i a) = some (.inl (st (i + 1) a')) ∧ g (st i a) = some (.inl (st (i + 1) a'))) (he : ∀ a, f (st n a) = some (.inr (.inl (out a))) ∧ g (st n a) = some (.inr (.inl (out a)))) :
    ∀ (m k : Nat) (a : A), k + m = n → ∃ r, iter f (st k a) = some (.inl r) ∧ iter g (st k a) = some (.inl r) := by
  intro m
  induction m with
  | zero =>
    intro k a hk
    have : k = n := by omega
    subst this
    exact ⟨_, iter_inr (he a).1, iter_inr (he a).2⟩
  | succ m ih =>
    intro k a hk
    obtain ⟨a', h1, h2⟩ := hs k a (by omega)
    obtain ⟨r, h3, h4⟩ := ih (k + 1) a' (by omega)
    exact ⟨r, (iter_inl h1).trans h3, (iter_inl h2).trans h4⟩
theorem leaf_loops (x : TLoss) (g : lossGood x) (a : List TLeaf) (hn : a.length ≤ 16) (hv : ∀ i, i < a.length → LeafR (a.getD i default) ∧
    G.i_ValidLeaf (a.getD i default).Id (a.getD i default).Flitch (a.getD i default).Number (a.getD i default).Veneer.Species (a.getD i default).Veneer.Shade (a.getD i default).Veneer.Grain (a.getD i default).Width (a.getD i default).Length (a.getD i default).Defects = some true) :
    ∃ r, iter (G.s_LeafForLoss.s0 x.Veneer.Species x.Veneer.Shade x.Veneer.Grain x.Area a) ((-1 : Int), (0 : Int), (0 : Int)) = some (.inl r) ∧ iter (G.i_LeafForLoss.s0 x.Veneer.Species x.Veneer.Shade x.Veneer.Grain x.Area a) ((-1 : Int), (0 : Int), (0 : Int)) = some (.inl r) := by
  refine iter_same (A := Int × Int) (n := a.length) (fun i q => (q.1, q.2, (i : Int))) (fun q => q) ?_ ?_ a.length 0 ((-1 : Int), (0 : Int)) (by omega)
  · rintro i ⟨b, l⟩ hi
    obtain ⟨hr, hl⟩ := hv i hi
    obtain ⟨U, u1, u2⟩ := p_usable _ hr hl
    obtain ⟨c, c1, c2⟩ := p_contrast x.Veneer (a.getD i default).Veneer (inR_iff.1 g.shade) hr.sh (inR_iff.1 g.grain) hr.gr
    have hd : decide ((i : Int) < ((a.length : Nat) : Int)) = true := by simp; omega
    have hc : 0 ≤ (i : Int) ∧ (i : Int) < ((a.length : Nat) : Int) := ⟨by omega, by omega⟩
    have hw : IntKind.wrap .i64 ((i : Int) + 1) = ((i + 1 : Nat) : Int) := by rw [wrap64 (by omega) (by omega)]; omega
    simp only [G.s_LeafForLoss.s0, G.i_LeafForLoss.s0, hd, cond_true, if_pos hc, Int.toNat_natCast, u1, u2, c1, c2, hw, Option.bind_some]
    cases decide ((a.getD i default).Veneer.Species = x.Veneer.Species)
    · exact ⟨(b, l), rfl, rfl⟩
    · cases decide (U < x.Area)
      · cases decide (b < 0)
        · cases decide (c < l)
          · exact ⟨(b, l), rfl, rfl⟩
          · exact ⟨((i : Int), c), rfl, rfl⟩
        · exact ⟨((i : Int), c), rfl, rfl⟩
      · exact ⟨(b, l), rfl, rfl⟩
  · rintro ⟨b, l⟩
    have hz : decide (((a.length : Nat) : Int) < ((a.length : Nat) : Int)) = false := by simp
    simp only [G.s_LeafForLoss.s0, G.i_LeafForLoss.s0, hz, cond_false]
    exact ⟨trivial, trivial⟩
theorem both_LeafForLoss (x : TLoss) (hx : fitLoss x) (a : List TLeaf) (ha : ∀ y ∈ a, fitLeaf y) (hn : a.length ≤ 1000000000) : ∃ r, G.s_LeafForLoss x.Name x.Veneer.Species x.Veneer.Shade x.Veneer.Grain x.Area x.Priority x.Cost x.Minutes a = some r ∧
    G.i_LeafForLoss x.Name x.Veneer.Species x.Veneer.Shade x.Veneer.Grain x.Area x.Priority x.Cost x.Minutes a = some r := by
  obtain ⟨b, h1, h2, h3⟩ := p_lossOne3 x hx
  obtain ⟨d, d1, d2, d3⟩ := p_leaves a ha hn
  unfold G.s_LeafForLoss G.i_LeafForLoss
  rw [h1, h2, Option.bind_some, Option.bind_some]
  cases b
  · exact ⟨(0, 0, 1), rfl, rfl⟩
  · simp only [cond_true, d1, d2, Option.bind_some]
    cases d
    · exact ⟨(0, 0, 1), rfl, rfl⟩
    · obtain ⟨e1, e2⟩ := d3 rfl
      obtain ⟨r, r1, r2⟩ := leaf_loops x (h3 rfl) a e1 e2
      simp only [Bool.not_true, cond_false, r1, r2, jn, Option.bind_some, Sum.elim_inl]
      cases decide (r.1 < 0)
      · exact ⟨(r.1, r.2, 0), rfl, rfl⟩
      · exact ⟨(0, 0, 3), rfl, rfl⟩
end Go.Proofs.Ytnhgffhnfegiiaa.Fw
namespace Go.Proofs.Ytnhgffhnfegiiaa.Fw
open Go.RowKit
set_option linter.unusedVariables false
set_option linter.unusedSimpArgs false
theorem law_LeafForLoss (x : TLoss) (hx : fitLoss x) (a : List TLeaf) (ha : ∀ y ∈ a, fitLeaf y) (hn : a.length ≤ 9223372036854775807) : G.l_FnExactLeafForLoss x.Name x.Veneer.Species x.Veneer.Shade x.Veneer.Grain x.Area x.Priority x.Cost x.Minutes a = some true := by
  obtain ⟨q, hq, hql⟩ := p_szLoss x hx.1 1048576 (by omega) (by omega)
  unfold G.l_FnExactLeafForLoss
  rw [hq, Option.bind_some]
  by_cases c : q < 0
  · rw [decide_eq_true c]; rfl
  · obtain ⟨q2, hq2, hl⟩ := p_szLeafS a ha hn q (by omega) hql
    rw [decide_eq_false c, cond_false, hq2, Option.bind_some]
    by_cases c2 : q2 < 0
    · rw [decide_eq_true c2]; rfl
    · obtain ⟨hl1, hl2⟩ := hl (by omega)
      obtain ⟨r, r1, r2⟩ := both_LeafForLoss x hx a ha (by omega)
      rw [decide_eq_false c2]
      simp only [cond_false, p_toLoss, p_toLeafS a hl1 hl2, Option.bind_some, r1, r2, decide_true, cond_true, Bool.not_true, p_eqLeafS a (by omega) hl2]
/-- Rows that tell less. -/
def RowsWk : List (List CV) → List (List CV) → Prop
  | [], [] => True
  | r :: rs, r' :: rs' => CWkL r r' ∧ RowsWk rs rs'
  | _, _ => False
theorem RowsWk.get : ∀ {rs rs' : List (List CV)}, RowsWk rs rs' → rs'.length = rs.length ∧ ∀ (i : Nat) r', rs'[i]? = some r' → ∃ r, rs[i]? = some r ∧ CWkL r r'
  | [], [], _ => ⟨rfl, fun i r' h => by simp at h⟩
  | r :: rs, r' :: rs', h => by
    obtain ⟨g1, g2⟩ := RowsWk.get h.2
    refine ⟨by simp [g1], fun i z hz => ?_⟩
    cases i with
    | zero => simp only [List.getElem?_cons_zero, Option.some.injEq] at hz; subst hz; exact ⟨r, rfl, h.1⟩
    | succ i => simp only [List.getElem?_cons_succ] at hz ⊢; exact g2 i z hz
theorem CWk.rows {nl : Bool} {z : Nat} {rows rows' : List (List CV)} (h : RowsWk rows rows') : CWk (.sl nl false z rows) (.sl true false z rows') := fun hr => by
  obtain ⟨g1, g2⟩ := h.get
  cases hr with
  | nil =>
    obtain rfl : rows' = [] := List.length_eq_zero_iff.1 (by simpa using g1)
    exact .nil
  | sl f h0 h1 h2 h3 h4 =>
    refine .sl f (h0.trans g1.symm) (by omega) (by simp) (fun i r' hr' j x hx => ?_) (fun i r' hr' j x hx => ?_)
    · obtain ⟨r, k1, k2⟩ := g2 i r' hr'
      obtain ⟨y, k3, _⟩ := k2.get.2 j x hx
      exact h3 i r k1 j y k3
    · obtain ⟨r, k1, k2⟩ := g2 i r' hr'
      obtain ⟨y, k3, k4⟩ := k2.get.2 j x hx
      exact k4 (h4 i r k1 j y k3)
theorem box_in {rows : List (List CV)} (h : ∀ r ∈ rows, Okl [.int .i64, .int .i64, .int .i64, .int .i64] r) : ∃ a : List TBox, rows = mapR rTBox a := by
  have hh := rows_of (f := rTBox) (p := fun _ => True) (rows := rows) (fun r hr => by
    obtain ⟨y0, ys0, rfl, e0, k0⟩ := okcons (h r hr)
    obtain ⟨y1, ys1, rfl, e1, k1⟩ := okcons k0
    obtain ⟨y2, ys2, rfl, e2, k2⟩ := okcons k1
    obtain ⟨y3, ys3, rfl, e3, k3⟩ := okcons k2
    obtain rfl := oknil k3
    obtain ⟨v0, rfl, b0, c0⟩ := okint e0
    obtain ⟨v1, rfl, b1, c1⟩ := okint e1
    obtain ⟨v2, rfl, b2, c2⟩ := okint e2
    obtain ⟨v3, rfl, b3, c3⟩ := okint e3
    exact ⟨⟨v0, v1, v2, v3⟩, rfl, trivial⟩)
  obtain ⟨a, h1, _⟩ := hh
  exact ⟨a, h1⟩
theorem leaves_in : ∀ {rows : List (List CV)}, (∀ r ∈ rows, Okl [.str, .str, .int .i64, .str, .int .i64, .int .i64, .int .i64, .int .i64, .sl [.int .i64, .int .i64, .int .i64, .int .i64]] r) → ∃ a : List TLeaf, RowsWk rows (mapR rTLeaf a) ∧ (∀ x ∈ a, fitLeaf x) ∧ a.length = rows.length
  | [], _ => ⟨[], trivial, by simp, rfl⟩
  | r :: rows, h => by
    obtain ⟨a, h1, h2, h3⟩ := leaves_in fun r' hr' => h r' (List.mem_cons_of_mem _ hr')
    obtain ⟨y0, ys0, rfl, e0, k0⟩ := okcons (h r (List.mem_cons_self ..))
    obtain ⟨y1, ys1, rfl, e1, k1⟩ := okcons k0
    obtain ⟨y2, ys2, rfl, e2, k2⟩ := okcons k1
    obtain ⟨y3, ys3, rfl, e3, k3⟩ := okcons k2
    obtain ⟨y4, ys4, rfl, e4, k4⟩ := okcons k3
    obtain ⟨y5, ys5, rfl, e5, k5⟩ := okcons k4
    obtain ⟨y6, ys6, rfl, e6, k6⟩ := okcons k5
    obtain ⟨y7, ys7, rfl, e7, k7⟩ := okcons k6
    obtain ⟨y8, ys8, rfl, e8, k8⟩ := okcons k7
    obtain rfl := oknil k8
    obtain ⟨v0, rfl, b0⟩ := okstr e0
    obtain ⟨v1, rfl, b1⟩ := okstr e1
    obtain ⟨v2, rfl, b2, c2⟩ := okint e2
    obtain ⟨v3, rfl, b3⟩ := okstr e3
    obtain ⟨v4, rfl, b4, c4⟩ := okint e4
    obtain ⟨v5, rfl, b5, c5⟩ := okint e5
    obtain ⟨v6, rfl, b6, c6⟩ := okint e6
    obtain ⟨v7, rfl, b7, c7⟩ := okint e7
    obtain ⟨nl, bs, rfl, hl, _, hb⟩ := oksl e8
    obtain ⟨bx, rfl⟩ := box_in hb
    have hbl : bx.length ≤ 9223372036854775807 := by simpa [mapR] using hl
    refine ⟨⟨v0, v1, v2, ⟨v3, v4, v5⟩, v6, v7, bx⟩ :: a, ⟨⟨CWk.refl _, CWk.refl _, CWk.refl _, CWk.refl _, CWk.refl _, CWk.refl _, CWk.refl _, CWk.refl _, CWk.sl, trivial⟩, h1⟩, fun x hx => ?_, by simp [h3]⟩
    rcases List.mem_cons.1 hx with rfl | hx
    · exact ⟨b0, b1, b3, b4, c4, hbl⟩
    · exact h2 x hx
theorem ret_FnExactLeafForLoss (v0 : ByteArray) (b0 : v0.size ≤ 9223372036854775807) (v1 : ByteArray) (b1 : v1.size ≤ 9223372036854775807) (v2 : Int) (b2 : IntKind.min .i64 ≤ v2) (c2 : v2 ≤ IntKind.max .i64) (v3 : Int) (_ : IntKind.min .i64 ≤ v3) (_ : v3 ≤ IntKind.max .i64) (v4 : Int) (_ : IntKind.min .i64 ≤ v4) (_ : v4 ≤ IntKind.max .i64) (v5 : Int) (_ : IntKind.min .i64 ≤ v5) (_ : v5 ≤ IntKind.max .i64) (v6 : Int) (_ : IntKind.min .i64 ≤ v6) (_ : v6 ≤ IntKind.max .i64) (v7 : Int) (_ : IntKind.min .i64 ≤ v7) (_ : v7 ≤ IntKind.max .i64) (nl : Bool) (rows : List (List CV)) (hl : rows.length ≤ 9223372036854775807) (_ : nl = true → rows = []) (hr : ∀ r ∈ rows, Okl [.str, .str, .int .i64, .str, .int .i64, .int .i64, .int .i64, .int .i64, .sl [.int .i64, .int .i64, .int .i64, .int .i64]] r) :
    Ret Try.prog 8 none [.agg [.c (.v (.string v0)), .c (.v (.string v1)), .c (.v (.int .i64 v2)), .c (.v (.int .i64 v3)), .c (.v (.int .i64 v4)), .c (.v (.int .i64 v5)), .c (.v (.int .i64 v6)), .c (.v (.int .i64 v7))], .c (.sl nl false 9 rows)] [] (.c (.v (.bool true))) := by
  obtain ⟨a, h1, h2, h3⟩ := leaves_in hr
  exact Ret.args (by simp [AV.lo]) (AWkL.cons (AWk.refl _) (AWkL.cons (AWk.c (CWk.rows h1)) AWkL.nil)) (ret_l_FnExactLeafForLoss v0 v1 v2 v3 v4 v5 v6 v7 a (law_LeafForLoss ⟨v0, ⟨v1, v2, v3⟩, v4, v5, v6, v7⟩ ⟨⟨b0, b1⟩, b2, c2⟩ a h2 (by rw [h3]; exact hl)))
end Go.Proofs.Ytnhgffhnfegiiaa.Fw
