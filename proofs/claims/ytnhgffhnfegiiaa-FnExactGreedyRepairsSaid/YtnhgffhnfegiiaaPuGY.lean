/- What the functions without memory come to. No condition. -/
import Derived.Test.YtnhgffhnfegiiaaGYmc
import Derived.Test.YtnhgffhnfegiiaaFwGf
import Derived.Test.YtnhgffhnfegiiaaFwGs
import Derived.Test.YtnhgffhnfegiiaaFwZb
namespace Go.Proofs.Ytnhgffhnfegiiaa.Fw
open Go.RowKit
set_option linter.unusedVariables false
set_option linter.unusedSimpArgs false
theorem all_getD {a b : List Int} (hl : a.length = b.length) : ((List.range' 0 a.length).all fun i => decide (a.getD i default = b.getD i default)) = decide (a = b) := by
  rw [Bool.eq_iff_iff, List.all_eq_true, decide_eq_true_eq]
  constructor
  · intro h
    refine List.ext_getElem hl fun i h1 h2 => ?_
    have := h i (by simp [List.mem_range'_1]; exact h1)
    simpa [List.getD_eq_getElem?_getD, h1, h2] using this
  · rintro rfl i _
    simp
theorem p_eqInt64S (a b : List Int) (ha : a.length ≤ 1000000000) : G.l_eqInt64S a b = some (decide (a = b)) := by
  unfold G.l_eqInt64S
  by_cases hl : a.length = b.length
  · have hc : decide (((a.length : Nat) : Int) = ((b.length : Nat) : Int)) = true := by simp [hl]
    rw [hc]
    have h := iter_scan (step := G.l_eqInt64S.s0 a b) (n := a.length) (p := fun i => decide (a.getD i default = b.getD i default)) (v := ()) (r := false) ?_ ?_ a.length 0 (by omega)
    · rw [show ((0 : Nat) : Int) = 0 from rfl] at h
      rw [h, all_getD hl]
      cases decide (a = b) <;> rfl
    · intro i hi
      simp only [G.l_eqInt64S.s0]
      have h1 : decide ((i : Int) < ((a.length : Nat) : Int)) = true := by simp; omega
      rw [h1]
      simp only [cond_true]
      rw [if_pos ⟨by omega, by omega⟩, if_pos ⟨by omega, by omega⟩, wrap64 (by omega) (by omega)]
      simp only [Int.toNat_natCast]
      cases decide (a.getD i default = b.getD i default) <;> rfl
    · simp only [G.l_eqInt64S.s0]
      have h1 : decide (((a.length : Nat) : Int) < ((a.length : Nat) : Int)) = false := by simp
      rw [h1]
      rfl
  · have hc : decide (((a.length : Nat) : Int) = ((b.length : Nat) : Int)) = false := by simp; omega
    have hd : decide (a = b) = false := by
      rw [decide_eq_false_iff_not]
      rintro rfl
      exact hl rfl
    rw [hc, hd]
    rfl
end Go.Proofs.Ytnhgffhnfegiiaa.Fw
namespace Go.Proofs.Ytnhgffhnfegiiaa.Fw
open Go.RowKit
set_option linter.unusedVariables false
set_option linter.unusedSimpArgs false
def inR (n lo hi : Int) : Bool := decide (lo ≤ n) && decide (n ≤ hi)
theorem p_within (n lo hi : Int) : G.i_within n lo hi = some (inR n lo hi) := by
  unfold G.i_within inR; cases decide (lo ≤ n) <;> rfl
theorem p_l00In (n lo hi : Int) : G.s_l00In n lo hi = some (inR n lo hi) := by
  unfold G.s_l00In inR; cases decide (lo ≤ n) <;> rfl
theorem p_l01Small (c : Int) : G.s_l01Small c = some (inR c 97 122) := by
  unfold G.s_l01Small inR; cases decide (97 ≤ c) <;> rfl
theorem p_l01Digit (c : Int) : G.s_l01Digit c = some (inR c 48 57) := by
  unfold G.s_l01Digit inR; cases decide (48 ≤ c) <;> rfl
theorem all_getDL {α : Type} [Inhabited α] [DecidableEq α] {a b : List α} (hl : a.length = b.length) : ((List.range' 0 a.length).all fun i => decide (a.getD i default = b.getD i default)) = decide (a = b) := by
  rw [Bool.eq_iff_iff, List.all_eq_true, decide_eq_true_eq]
  constructor
  · intro h
    refine List.ext_getElem hl fun i h1 h2 => ?_
    have := h i (by simp [List.mem_range'_1]; exact h1)
    simpa [List.getD_eq_getElem?_getD, h1, h2] using this
  · rintro rfl i _
    simp
theorem makeOk_of {n : Nat} {b : Nat} (h : n ≤ 1048576) (hb : b ≤ 1000) : makeOk (n : Int) (n : Int) b := by
  unfold makeOk
  have h1 : n * b ≤ 1048576 * 1000 := Nat.mul_le_mul h hb
  have h2 : (b : Int) * (n : Int) = ((n * b : Nat) : Int) := by rw [Int.natCast_mul, Int.mul_comm]
  refine ⟨?_, ?_, ?_, ?_⟩ <;> omega
end Go.Proofs.Ytnhgffhnfegiiaa.Fw
namespace Go.Proofs.Ytnhgffhnfegiiaa.Fw
open Go.RowKit
set_option linter.unusedVariables false
set_option linter.unusedSimpArgs false
/-- The sum over neighbours. -/
def pairSum (f : Int → Int → Int) : List Int → Int
  | [] => 0
  | [_] => 0
  | a :: b :: l => f a b + pairSum f (b :: l)
/-- Without neighbours that are alike. -/
def dd : List Int → List Int
  | [] => []
  | [a] => [a]
  | a :: b :: l => if a = b then dd (b :: l) else a :: dd (b :: l)
theorem dd_head (a : Int) (l : List Int) : ∃ t, dd (a :: l) = a :: t := by
  induction l generalizing a with
  | nil => exact ⟨[], rfl⟩
  | cons b l ih =>
    by_cases h : a = b
    · subst h
      obtain ⟨t, ht⟩ := ih a
      exact ⟨t, by rw [dd, if_pos rfl, ht]⟩
    · exact ⟨dd (b :: l), by rw [dd, if_neg h]⟩
theorem pairSum_dd (f : Int → Int → Int) (h : ∀ a, f a a = 0) (l : List Int) : pairSum f (dd l) = pairSum f l := by
  match l with
  | [] => rfl
  | [a] => rfl
  | a :: b :: l =>
    have ih := pairSum_dd f h (b :: l)
    by_cases e : a = b
    · subst e
      rw [dd, if_pos rfl, ih, pairSum, h, Int.zero_add]
    · obtain ⟨t, ht⟩ := dd_head b l
      rw [dd, if_neg e, ht, pairSum, ← ht, ih, pairSum]
termination_by l.length
theorem mem_dd (x : Int) (l : List Int) : x ∈ dd l ↔ x ∈ l := by
  match l with
  | [] => rfl
  | [a] => rfl
  | a :: b :: l =>
    have ih := mem_dd x (b :: l)
    by_cases e : a = b
    · subst e
      rw [dd, if_pos rfl, ih]
      simp
    · rw [dd, if_neg e, List.mem_cons, ih]
      simp
termination_by l.length
theorem dd_lt (l : List Int) (h : l.Pairwise (· ≤ ·)) : (dd l).Pairwise (· < ·) := by
  match l with
  | [] => exact .nil
  | [a] => simp [dd]
  | a :: b :: l =>
    have h2 := List.pairwise_cons.1 h
    have ih := dd_lt (b :: l) h2.2
    by_cases e : a = b
    · subst e
      rw [dd, if_pos rfl]; exact ih
    · rw [dd, if_neg e]
      refine List.pairwise_cons.2 ⟨fun x hx => ?_, ih⟩
      rw [mem_dd] at hx
      have h3 := h2.1 b (List.mem_cons_self ..)
      have h4 := (List.pairwise_cons.1 h2.2).1
      rcases List.mem_cons.1 hx with rfl | hx
      · omega
      · have := h4 x hx; omega
termination_by l.length
/-- Two rising lists with the same members are the same. -/
theorem rising_eq : ∀ (a b : List Int), a.Pairwise (· < ·) → b.Pairwise (· < ·) → (∀ x, x ∈ a ↔ x ∈ b) → a = b
  | [], [], _, _, _ => rfl
  | [], y :: b, _, _, h => by have := (h y).2 (List.mem_cons_self ..); simp at this
  | x :: a, [], _, _, h => by have := (h x).1 (List.mem_cons_self ..); simp at this
  | x :: a, y :: b, ha, hb, h => by
    have h1 := List.pairwise_cons.1 ha
    have h2 := List.pairwise_cons.1 hb
    have e : x = y := by
      have p := (h x).1 (List.mem_cons_self ..)
      have q := (h y).2 (List.mem_cons_self ..)
      rcases List.mem_cons.1 p with p | p
      · exact p
      · rcases List.mem_cons.1 q with q | q
        · exact q.symm
        · have := h1.1 y q; have := h2.1 x p; omega
    subst e
    have : a = b := rising_eq a b h1.2 h2.2 fun z => by
      have hz := h z
      rw [List.mem_cons, List.mem_cons] at hz
      constructor
      · intro m
        rcases hz.1 (.inr m) with rfl | m'
        · exact absurd (h1.1 z m) (by omega)
        · exact m'
      · intro m
        rcases hz.2 (.inr m) with rfl | m'
        · exact absurd (h2.1 z m) (by omega)
        · exact m'
    rw [this]
theorem pairSum_le (f : Int → Int → Int) (B : Int) (l : List Int) (h : ∀ a ∈ l, ∀ b ∈ l, a ≤ b → 0 ≤ f a b ∧ f a b ≤ B) (hp : l.Pairwise (· ≤ ·)) : 0 ≤ pairSum f l ∧ pairSum f l ≤ (l.length : Int) * B ∧ (l ≠ [] → 0 ≤ (l.length : Int)) := by
  match l with
  | [] => exact ⟨by simp [pairSum], by simp [pairSum], fun _ => by simp⟩
  | [a] => 
    have := h a (List.mem_cons_self ..) a (List.mem_cons_self ..) (Int.le_refl _)
    exact ⟨by simp [pairSum], by simp [pairSum]; omega, fun _ => by simp⟩
  | a :: b :: l =>
    have hp2 := List.pairwise_cons.1 hp
    have ih := pairSum_le f B (b :: l) (fun x hx y hy => h x (List.mem_cons_of_mem _ hx) y (List.mem_cons_of_mem _ hy)) hp2.2
    have h1 := h a (List.mem_cons_self ..) b (List.mem_cons_of_mem _ (List.mem_cons_self ..)) (hp2.1 b (List.mem_cons_self ..))
    refine ⟨by rw [pairSum]; omega, ?_, fun _ => by omega⟩
    rw [pairSum, List.length_cons]
    have : ((((b :: l).length + 1 : Nat) : Int)) * B = ((b :: l).length : Int) * B + B := by
      rw [Int.natCast_add, Int.add_mul]; simp
    omega
termination_by l.length
/-- A loop over neighbours. -/
theorem iter_pairs {R : Type} {step : Int × Int → Option ((Int × Int) ⊕ (Int ⊕ R))} (l : List Int) (f : Int → Int → Int) (B base : Int) (h0 : 1 ≤ l.length) (hlen : l.length ≤ 1000)
    (hf : ∀ a ∈ l, ∀ b ∈ l, a ≤ b → 0 ≤ f a b ∧ f a b ≤ B) (hp : l.Pairwise (· ≤ ·))
    (hs : ∀ (i : Nat) (sum : Int), i + 1 < l.length → base ≤ sum → sum ≤ base + 1000 * B → step (sum, ((i + 1 : Nat) : Int)) = some (.inl (sum + f (l.getD i default) (l.getD (i + 1) default), ((i + 1 + 1 : Nat) : Int))))
    (he : ∀ sum : Int, step (sum, (l.length : Int)) = some (.inr (.inl sum))) :
    iter step (base, (1 : Int)) = some (.inl (base + pairSum f l)) := by
  have key : ∀ (m : Nat) (i : Nat) (sum : Int), i + 1 + m = l.length → base ≤ sum → sum ≤ base + (i : Int) * B → iter step (sum, ((i + 1 : Nat) : Int)) = some (.inl (sum + pairSum f (l.drop i))) := by
    intro m
    induction m with
    | zero =>
      intro i sum hi h1 h2
      have hl : i < l.length := by omega
      have : l.drop i = [l[i]] := by
        rw [← List.getElem_cons_drop hl, List.drop_eq_nil_of_le (by omega)]
      rw [this, show i + 1 = l.length by omega, iter_inr (r := .inl sum) (he sum)]
      simp [pairSum]
    | succ m ih =>
      intro i sum hi h1 h2
      have hl : i < l.length := by omega
      have hl2 : i + 1 < l.length := by omega
      have hd : l.drop i = l[i] :: l[i + 1] :: l.drop (i + 2) := by
        rw [← List.getElem_cons_drop hl, ← List.getElem_cons_drop hl2]
      have hd2 : l.drop (i + 1) = l[i + 1] :: l.drop (i + 2) := by rw [← List.getElem_cons_drop hl2]
      have hle : l[i] ≤ l[i + 1] := List.pairwise_iff_getElem.1 hp i (i + 1) hl hl2 (by omega)
      obtain ⟨b1, b2⟩ := hf l[i] (List.getElem_mem hl) l[i + 1] (List.getElem_mem hl2) hle
      have g1 : l.getD i default = l[i] := by rw [List.getD_eq_getElem?_getD, List.getElem?_eq_getElem hl, Option.getD_some]
      have g2 : l.getD (i + 1) default = l[i + 1] := by rw [List.getD_eq_getElem?_getD, List.getElem?_eq_getElem hl2, Option.getD_some]
      have hB : 0 ≤ B := by omega
      have hiB : (i : Int) * B ≤ 1000 * B := Int.mul_le_mul_of_nonneg_right (by omega) hB
      have hst := hs i sum (by omega) h1 (by omega)
      rw [g1, g2] at hst
      have e1 : ((i + 1 : Nat) : Int) * B = (i : Int) * B + B := by rw [Int.natCast_add, Int.add_mul]; simp
      rw [iter_inl hst, ih (i + 1) _ (by omega) (by omega) (by rw [e1]; omega), hd, hd2, pairSum]
      congr 2
      omega
  have := key (l.length - 1) 0 base (by omega) (Int.le_refl _) (by simp)
  simpa using this
/-- A number laid into a rising list. -/
def ins (n : Int) : List Int → List Int
  | [] => [n]
  | a :: l => if n ≤ a then (if n < a then n :: a :: l else a :: l) else a :: ins n l
theorem mem_ins (n x : Int) (l : List Int) : x ∈ ins n l ↔ x = n ∨ x ∈ l := by
  induction l with
  | nil => simp [ins]
  | cons a l ih =>
    unfold ins
    split
    · split
      · simp
      · have : n = a := by omega
        subst this
        simp
    · rw [List.mem_cons, ih, List.mem_cons]
      constructor
      · rintro (h | h | h) <;> simp [h]
      · rintro (h | h | h) <;> simp [h]
theorem ins_lt (n : Int) (l : List Int) (h : l.Pairwise (· < ·)) : (ins n l).Pairwise (· < ·) := by
  induction l with
  | nil => simp [ins]
  | cons a l ih =>
    have h1 := List.pairwise_cons.1 h
    unfold ins
    split
    · split
      · refine List.pairwise_cons.2 ⟨fun x hx => ?_, h⟩
        rcases List.mem_cons.1 hx with rfl | hx
        · assumption
        · have := h1.1 x hx; omega
      · exact h
    · refine List.pairwise_cons.2 ⟨fun x hx => ?_, ih h1.2⟩
      rw [mem_ins] at hx
      rcases hx with rfl | hx
      · omega
      · exact h1.1 x hx
theorem ins_len (n : Int) (l : List Int) : (ins n l).length ≤ l.length + 1 := by
  induction l with
  | nil => simp [ins]
  | cons a l ih =>
    unfold ins
    split
    · split <;> simp
    · simp only [List.length_cons]; omega
theorem lt_le {l : List Int} (h : l.Pairwise (· < ·)) : l.Pairwise (· ≤ ·) := h.imp (fun h => Int.le_of_lt h)
end Go.Proofs.Ytnhgffhnfegiiaa.Fw
namespace Go.Proofs.Ytnhgffhnfegiiaa.Fw
open Go.RowKit
set_option linter.unusedVariables false
set_option linter.unusedSimpArgs false
theorem getD_eq {α : Type} [Inhabited α] {l : List α} {i : Nat} (h : i < l.length) : l.getD i default = l[i] := by
  rw [List.getD_eq_getElem?_getD, List.getElem?_eq_getElem h, Option.getD_some]
theorem p_l00Put (l : List Int) (n : Int) (hl : l.length ≤ 1000) : G.s_l00Put l n = some (ins n l) := by
  have h := iter_go (step := G.s_l00Put.s0 l n) (n := l.length) (A := List Int × Bool) (g := fun a => a) (fun i a => (a.1, a.2, (i : Int)))
    (fun i a => a.1.length ≤ i + 1 ∧ ins n l = a.1 ++ (if a.2 = true then l.drop i else ins n (l.drop i))) (fun _ => False) ?_ ?_ l.length 0 ([], false) (by omega) ⟨by simp, by simp⟩
  · rcases h with ⟨⟨out, done⟩, ⟨h1, h2⟩, h⟩ | ⟨r, hr, _⟩
    · simp only at h1 h2
      have h : iter (G.s_l00Put.s0 l n) (([] : List Int), false, (0 : Int)) = _ := h
      unfold G.s_l00Put
      rw [h]
      simp only [jn, Option.bind_some, Sum.elim_inl]
      rw [List.drop_length] at h2
      cases done
      · simp only [cond_false]
        rw [if_pos ⟨by omega, by omega⟩, h2]
        rfl
      · simp only [cond_true, Option.bind_some]
        rw [h2]
        simp
    · exact hr.elim
  · rintro i ⟨out, done⟩ hi ⟨h1, h2⟩
    simp only at h1 h2
    have hd : l.drop i = l[i] :: l.drop (i + 1) := (List.getElem_cons_drop ..).symm
    have hc : 0 ≤ (i : Int) ∧ (i : Int) < ((l.length : Nat) : Int) := ⟨by omega, by omega⟩
    have hw : IntKind.wrap .i64 ((i : Int) + 1) = ((i + 1 : Nat) : Int) := by rw [wrap64 (by omega) (by omega)]; omega
    simp only [G.s_l00Put.s0, if_pos hc, Int.toNat_natCast, hw, getD_eq hi]
    rw [decide_eq_true (by omega), cond_true]
    rw [hd] at h2
    cases done
    · simp only [cond_false, Option.bind_some]
      by_cases c1 : n ≤ l[i]
      · rw [decide_eq_true c1]
        simp only [cond_true]
        by_cases c2 : n < l[i]
        · rw [decide_eq_true c2]
          simp only [cond_true]
          rw [if_pos ⟨by omega, by omega⟩]
          simp only [Option.bind_some]
          rw [if_pos ⟨by simp only [List.length_append, List.length_cons, List.length_nil]; omega, by simp only [List.length_append, List.length_cons, List.length_nil]; omega⟩]
          refine .inl ⟨(out ++ [n] ++ [l[i]], true), rfl, ?_, ?_⟩
          · have : out.length ≤ i := by
              rw [if_neg (by decide)] at h2
              have e := congrArg List.length h2
              rw [List.length_append] at e
              have := ins_len n l
              have h3 : (ins n (l[i] :: l.drop (i + 1))).length = (l.drop (i + 1)).length + 2 := by rw [ins, if_pos c1, if_pos c2]; rfl
              rw [h3, List.length_drop] at e
              omega
            simp only [List.length_append, List.length_cons, List.length_nil]; omega
          · rw [h2, if_neg (by decide), ins, if_pos c1, if_pos c2]
            simp
        · rw [decide_eq_false c2]
          simp only [cond_false, Option.bind_some]
          rw [if_pos ⟨by omega, by omega⟩]
          refine .inl ⟨(out ++ [l[i]], true), rfl, by simp only [List.length_append, List.length_cons, List.length_nil]; omega, ?_⟩
          rw [h2, if_neg (by decide), ins, if_pos c1, if_neg c2]
          simp
      · rw [decide_eq_false c1]
        simp only [cond_false, Option.bind_some]
        rw [if_pos ⟨by omega, by omega⟩]
        refine .inl ⟨(out ++ [l[i]], false), rfl, by simp only [List.length_append, List.length_cons, List.length_nil]; omega, ?_⟩
        rw [h2, if_neg (by decide), ins, if_neg c1]
        simp
    · simp only [cond_true, Option.bind_some, cond_false]
      rw [if_pos ⟨by omega, by omega⟩]
      refine .inl ⟨(out ++ [l[i]], true), rfl, by simp only [List.length_append, List.length_cons, List.length_nil]; omega, ?_⟩
      rw [h2, if_pos rfl]
      simp
  · rintro ⟨out, done⟩ _
    simp only [G.s_l00Put.s0]
    rw [decide_eq_false (by omega), cond_false]
theorem sortI_le (l : List Int) : (sortI l).Pairwise (· ≤ ·) := by
  have := List.pairwise_mergeSort (le := fun x y : Int => decide (x ≤ y)) (fun a b c h1 h2 => by simp only [decide_eq_true_eq] at *; omega) (fun a b => by simp only [Bool.or_eq_true, decide_eq_true_eq]; omega) l
  exact this.imp (fun h => by simpa using h)
theorem mem_sortI (z : Int) (l : List Int) : z ∈ sortI l ↔ z ∈ l := List.mem_mergeSort
end Go.Proofs.Ytnhgffhnfegiiaa.Fw
namespace Go.Proofs.Ytnhgffhnfegiiaa.Fw
open Go.RowKit
set_option linter.unusedVariables false
set_option linter.unusedSimpArgs false
theorem p_toLoss (x : TLoss) : G.l_toLoss x.Name x.Veneer.Species x.Veneer.Shade x.Veneer.Grain x.Area x.Priority x.Cost x.Minutes = some x := rfl
theorem p_eqLoss (x y : TLoss) : G.l_eqLoss x.Name x.Veneer.Species x.Veneer.Shade x.Veneer.Grain x.Area x.Priority x.Cost x.Minutes y.Name y.Veneer.Species y.Veneer.Shade y.Veneer.Grain y.Area y.Priority y.Cost y.Minutes = some (decide (x = y)) := by
  obtain ⟨a1, ⟨a2, a3, a4⟩, a5, a6, a7, a8⟩ := x
  obtain ⟨b1, ⟨b2, b3, b4⟩, b5, b6, b7, b8⟩ := y
  simp only [G.l_eqLoss, G.l_eqVeneer, TLoss.mk.injEq, TVeneer.mk.injEq]
  by_cases h1 : a1 = b1 <;> by_cases h2 : a2 = b2 <;> by_cases h3 : a3 = b3 <;> by_cases h4 : a4 = b4 <;> by_cases h5 : a5 = b5 <;> by_cases h6 : a6 = b6 <;> by_cases h7 : a7 = b7 <;> by_cases h8 : a8 = b8 <;> simp [h1, h2, h3, h4, h5, h6, h7, h8]
theorem p_eqLossS (a b : List TLoss) (ha : a.length ≤ 1000000000) : G.l_eqLossS a b = some (decide (a = b)) := by
  unfold G.l_eqLossS
  by_cases hl : a.length = b.length
  · have hc : decide (((a.length : Nat) : Int) = ((b.length : Nat) : Int)) = true := by simp [hl]
    rw [hc]
    have h := iter_scan (step := G.l_eqLossS.s0 a b) (n := a.length) (p := fun i => decide (a.getD i default = b.getD i default)) (v := ()) (r := false) ?_ ?_ a.length 0 (by omega)
    · rw [show ((0 : Nat) : Int) = 0 from rfl] at h
      rw [h, all_getDL hl]
      cases decide (a = b) <;> rfl
    · intro i hi
      simp only [G.l_eqLossS.s0]
      have h1 : decide ((i : Int) < ((a.length : Nat) : Int)) = true := by simp; omega
      rw [h1]
      simp only [cond_true]
      rw [if_pos ⟨by omega, by omega⟩, if_pos ⟨by omega, by omega⟩, wrap64 (by omega) (by omega), p_eqLoss]
      simp only [Int.toNat_natCast, Option.bind_some]
      cases decide (a.getD i default = b.getD i default) <;> rfl
    · simp only [G.l_eqLossS.s0]
      have h1 : decide (((a.length : Nat) : Int) < ((a.length : Nat) : Int)) = false := by simp
      rw [h1]
      rfl
  · have hc : decide (((a.length : Nat) : Int) = ((b.length : Nat) : Int)) = false := by simp; omega
    have hd : decide (a = b) = false := by
      rw [decide_eq_false_iff_not]
      rintro rfl
      exact hl rfl
    rw [hc, hd]
    rfl
theorem p_toLossS (a : List TLoss) (ha : a.length ≤ 1048576) : G.l_toLossS a = some a := by
  unfold G.l_toLossS
  rw [if_pos (makeOk_of ha (by omega))]
  have hh := iter_inv (step := G.l_toLossS.s0 a) (n := a.length) (g := fun o => o) (fun i o => o.length = a.length ∧ ∀ j, j < i → o.getD j default = a.getD j default) ?_ ?_ a.length 0 (List.replicate a.length (TLoss.mk (⟨#[]⟩ : ByteArray) (TVeneer.mk (⟨#[]⟩ : ByteArray) (0 : Int) (0 : Int)) (0 : Int) (0 : Int) (0 : Int) (0 : Int))) (by omega) ⟨List.length_replicate .., fun j hj => by omega⟩
  · obtain ⟨o, ho, h⟩ := hh
    rw [show ((0 : Nat) : Int) = 0 from rfl] at h
    rw [h]
    show some o = some a
    congr 1
    clear h
    refine List.ext_getElem ho.1 fun i h1 h2 => ?_
    have := ho.2 i h2
    rwa [List.getD_eq_getElem?_getD, List.getD_eq_getElem?_getD, List.getElem?_eq_getElem h1, List.getElem?_eq_getElem h2, Option.getD_some, Option.getD_some] at this
  · rintro i o hi ⟨h1, h2⟩
    refine ⟨o.set i (a.getD i default), ?_, by simpa using h1, fun j hj => ?_⟩
    · simp only [G.l_toLossS.s0]
      have h3 : decide ((i : Int) < ((a.length : Nat) : Int)) = true := by simp; omega
      rw [h3]
      simp only [cond_true]
      rw [if_pos ⟨by omega, by omega⟩, p_toLoss]
      simp only [Int.toNat_natCast, Option.bind_some]
      rw [if_pos ⟨by omega, by omega⟩, wrap64 (by omega) (by omega)]
      rfl
    · by_cases e : j = i
      · subst e; exact getD_set_self _ _ _ _ (by omega)
      · have := h2 j (by omega)
        rw [← this]
        simp [List.getD_eq_getElem?_getD, List.getElem?_set, Ne.symm e]
  · rintro o ⟨h1, h2⟩
    simp only [G.l_toLossS.s0]
    have h3 : decide (((a.length : Nat) : Int) < ((a.length : Nat) : Int)) = false := by simp
    rw [h3]
    rfl
def smallLoss (x : TLoss) : Prop := x.Name.size ≤ 9223372036854775807 ∧ x.Veneer.Species.size ≤ 9223372036854775807
theorem p_szLoss (x : TLoss) (h : smallLoss x) (left : Int) (h1 : 0 ≤ left) (h2 : left ≤ 1048576) : ∃ q, G.l_szLoss x.Name x.Veneer.Species x.Veneer.Shade x.Veneer.Grain x.Area x.Priority x.Cost x.Minutes left = some q ∧ q ≤ left := by
  obtain ⟨ha, hb⟩ := h
  unfold G.l_szLoss
  rw [wrap64 (by omega) (by omega)]
  by_cases c1 : left - (x.Name.size : Int) < 0
  · exact ⟨-1, by simp [c1], by omega⟩
  · rw [show decide (left - (x.Name.size : Int) < 0) = false from by simpa using c1]
    simp only [cond_false, G.l_szVeneer]
    rw [wrap64 (by omega) (by omega)]
    by_cases c2 : left - (x.Name.size : Int) - (x.Veneer.Species.size : Int) < 0
    · exact ⟨-1, by simp [c2], by omega⟩
    · exact ⟨left - (x.Name.size : Int) - (x.Veneer.Species.size : Int), by simp [c2], by omega⟩
theorem p_szLossS (a : List TLoss) (ha : ∀ x ∈ a, smallLoss x) (hn : a.length ≤ 9223372036854775807) : ∃ q, G.l_szLossS a 1048576 = some q ∧ (0 ≤ q → a.length ≤ 1048576) := by
  unfold G.l_szLossS
  rw [wrap64 (by omega) (by omega)]
  by_cases c1 : (1048576 : Int) - (a.length : Int) < 0
  · exact ⟨-1, by simp [c1], by omega⟩
  · rw [show decide ((1048576 : Int) - (a.length : Int) < 0) = false from by simpa using c1]
    simp only [cond_false]
    have hh := iter_exit (step := G.l_szLossS.s0 a) (n := a.length) (g := fun o => o) (fun i l => 0 ≤ l ∧ l ≤ 1048576) (fun r => r = -1) ?_ ?_ a.length 0 (1048576 - (a.length : Int)) (by omega) ⟨by omega, by omega⟩
    · rw [show ((0 : Nat) : Int) = 0 from rfl] at hh
      rcases hh with ⟨l, _, h⟩ | ⟨r, _, h⟩
      · exact ⟨l, by rw [h]; rfl, fun _ => by omega⟩
      · exact ⟨r, by rw [h]; rfl, fun _ => by omega⟩
    · rintro i l hi ⟨h1, h2⟩
      have h3 : decide ((i : Int) < ((a.length : Nat) : Int)) = true := by simp; omega
      have hx : smallLoss (a.getD i default) := by
        rw [List.getD_eq_getElem?_getD, List.getElem?_eq_getElem hi, Option.getD_some]
        exact ha _ (List.getElem_mem hi)
      obtain ⟨q, h4, h5⟩ := p_szLoss _ hx l h1 h2
      simp only [G.l_szLossS.s0]
      rw [h3]
      simp only [cond_true]
      rw [if_pos ⟨by omega, by omega⟩, wrap64 (by omega) (by omega)]
      simp only [Int.toNat_natCast]
      rw [h4]
      by_cases c2 : q < 0
      · exact .inr ⟨-1, by simp [c2], rfl⟩
      · exact .inl ⟨q, by simp [c2], by omega, by omega⟩
    · rintro l _
      simp only [G.l_szLossS.s0]
      have h3 : decide (((a.length : Nat) : Int) < ((a.length : Nat) : Int)) = false := by simp
      rw [h3]
      rfl
end Go.Proofs.Ytnhgffhnfegiiaa.Fw
namespace Go.Proofs.Ytnhgffhnfegiiaa.Fw
open Go.RowKit
set_option linter.unusedVariables false
set_option linter.unusedSimpArgs false
theorem p_markInt64S (a : List Int) (hn : a.length ≤ 1000000000) : ∃ o : List Int, o.length = a.length ∧ (∀ j, j < a.length → o.getD j default = 1 + (j : Int)) ∧ G.l_markInt64S a 1 = some (o, 1 + (a.length : Int)) := by
  unfold G.l_markInt64S
  have hh := iter_go (step := G.l_markInt64S.s0) (n := a.length) (A := List Int) (g := fun o => (o, 1 + (a.length : Int))) (fun i o => (o, 1 + (i : Int), (i : Int))) (fun i o => o.length = a.length ∧ ∀ j, j < i → o.getD j default = 1 + (j : Int)) (fun _ => False) ?_ ?_ a.length 0 a (by omega) ⟨rfl, fun j hj => by omega⟩
  · rcases hh with ⟨o, ⟨h1, h2⟩, h⟩ | ⟨r, hr, _⟩
    · refine ⟨o, h1, h2, ?_⟩
      have h : iter G.l_markInt64S.s0 (a, 1, 0) = _ := h
      rw [h]
      rfl
    · exact hr.elim
  · rintro i o hi ⟨h1, h2⟩
    refine .inl ⟨o.set i (1 + (i : Int)), ?_, by simpa using h1, fun j hj => ?_⟩
    · have h3 : decide ((i : Int) < ((o.length : Nat) : Int)) = true := by simp; omega
      simp only [G.l_markInt64S.s0]
      rw [h3]
      simp only [cond_true]
      rw [if_pos ⟨by omega, by omega⟩, wrap64 (by omega) (by omega), wrap64 (by omega) (by omega)]
      simp only [Int.toNat_natCast, Int.natCast_add, Int.natCast_one]
      rw [Int.add_assoc]
    · by_cases e : j = i
      · subst e; exact getD_set_self _ _ _ _ (by omega)
      · have := h2 j (by omega)
        rw [← this]
        simp [List.getD_eq_getElem?_getD, List.getElem?_set, Ne.symm e]
  · rintro o ⟨h1, h2⟩
    have h3 : decide (((a.length : Nat) : Int) < ((o.length : Nat) : Int)) = false := by simp; omega
    simp only [G.l_markInt64S.s0]
    rw [h3]
    rfl
theorem p_heldInt64S (o : List Int) (hn : o.length ≤ 1000000000) (ho : ∀ j, j < o.length → o.getD j default = 1 + (j : Int)) : G.l_heldInt64S o 1 = some (1 + (o.length : Int)) := by
  unfold G.l_heldInt64S
  have hh := iter_go (step := G.l_heldInt64S.s0 o) (n := o.length) (A := Unit) (g := fun _ => 1 + (o.length : Int)) (fun i _ => (1 + (i : Int), (i : Int))) (fun i _ => True) (fun _ => False) ?_ ?_ o.length 0 () (by omega) trivial
  · rcases hh with ⟨_, _, h⟩ | ⟨r, hr, _⟩
    · have h : iter (G.l_heldInt64S.s0 o) (1, 0) = _ := h
      rw [h]
      rfl
    · exact hr.elim
  · rintro i _ hi _
    refine .inl ⟨(), ?_, trivial⟩
    have h3 : decide ((i : Int) < ((o.length : Nat) : Int)) = true := by simp; omega
    simp only [G.l_heldInt64S.s0]
    rw [h3]
    simp only [cond_true]
    rw [if_pos ⟨by omega, by omega⟩, wrap64 (by omega) (by omega), wrap64 (by omega) (by omega)]
    simp only [Int.toNat_natCast, ho i hi, decide_true, cond_true, Int.natCast_add, Int.natCast_one]
    rw [Int.add_assoc]
  · rintro _ _
    have h3 : decide (((o.length : Nat) : Int) < ((o.length : Nat) : Int)) = false := by simp
    simp only [G.l_heldInt64S.s0]
    rw [h3]
    rfl
theorem p_markInt64S_0n : G.l_markInt64S_0n 1 = some 1 := by
  unfold G.l_markInt64S_0n
  have h : iter G.l_markInt64S_0n.s0 () = some (.inl ()) := iter_inr rfl
  rw [h]
  rfl
theorem p_markText (k : Int) (h0 : 0 < k) (h1 : k ≤ 1000000000000) : ∃ t, G.l_markText k = some t := by
  unfold G.l_markText
  rw [show decide (k ≤ 0) = false from by simp; omega]
  simp only [cond_false]
  obtain ⟨r, hr, t, rfl, ht⟩ := iter_by (step := G.l_markText.s0) (fun s => 0 ≤ s.1 ∧ s.1 ≤ 1000000000000 ∧ (s.2.size : Int) + s.1 ≤ 1000000000000) (fun s => s.1.toNat) (fun r => ∃ t : ByteArray, r = .inl t ∧ t.size ≤ 1000000000000) (by
    rintro ⟨x, o⟩ ⟨h2, h3, h4⟩
    simp only at h2 h3 h4
    simp only [G.l_markText.s0]
    by_cases c : 0 < x
    · refine .inl ⟨(IntKind.wrap .i64 (x.tdiv 10), (⟨(bytesU ([(IntKind.wrap .u8 (IntKind.wrap .i64 ((48 : Int) + (x.tmod 10))))] : (List Int))).toArray⟩ : ByteArray) ++ o), ?_, ?_, ?_⟩
      · have hz : (⟨(bytesU ([(IntKind.wrap .u8 (IntKind.wrap .i64 ((48 : Int) + (x.tmod 10))))] : (List Int))).toArray⟩ : ByteArray).size = 1 := rfl
        simp only [c, decide_true, cond_true]
        rw [if_neg (by omega)]
      · have hz : (⟨(bytesU ([(IntKind.wrap .u8 (IntKind.wrap .i64 ((48 : Int) + (x.tmod 10))))] : (List Int))).toArray⟩ : ByteArray).size = 1 := rfl
        have hd : x.tdiv 10 = x / 10 := Int.tdiv_eq_ediv_of_nonneg h2
        simp only [ByteArray.size_append, hz, hd]
        rw [wrap64 (by omega) (by omega)]
        refine ⟨by omega, by omega, by omega⟩
      · have hd : x.tdiv 10 = x / 10 := Int.tdiv_eq_ediv_of_nonneg h2
        simp only [hd]
        rw [wrap64 (by omega) (by omega)]
        omega
    · refine .inr ⟨.inl o, ?_, o, rfl, by omega⟩
      simp [c]) (k, (⟨#[]⟩ : ByteArray)) ⟨by omega, by omega, by show ((0 : Nat) : Int) + k ≤ _; omega⟩
  rw [hr]
  refine ⟨⟨#[109]⟩ ++ t, ?_⟩
  show (if 9223372036854775807 < 1 + t.size then none else some (⟨#[109]⟩ ++ t)) = _
  rw [if_neg (by omega)]
end Go.Proofs.Ytnhgffhnfegiiaa.Fw
namespace Go.Proofs.Ytnhgffhnfegiiaa.Fw
open Go.RowKit
set_option linter.unusedVariables false
set_option linter.unusedSimpArgs false
theorem s_markLossS (o : List TLoss) (i : Nat) (k : Int) (hi : i < o.length) (h0 : 0 < k) (h1 : k ≤ 100000000000) (hn : o.length ≤ 1000000000) : ∃ o' : List TLoss, o'.length = o.length ∧ G.l_markLossS.s0 (o, k, (i : Int)) = some (.inl (o', k + 8, ((i + 1 : Nat) : Int))) := by
  obtain ⟨t1, e1⟩ := p_markText k h0 (by omega)
  obtain ⟨t2, e2⟩ := p_markText (k + 1) (by omega) (by omega)
  have h3 : decide ((i : Int) < ((o.length : Nat) : Int)) = true := by simp; omega
  have w : ∀ x : Int, 0 ≤ x → x ≤ 1000000000000 → IntKind.wrap .i64 x = x := fun x a b => wrap64 (by omega) (by omega)
  simp only [G.l_markLossS.s0, w (k + 1) (by omega) (by omega), w (k + 1 + 1) (by omega) (by omega), w (k + 1 + 1 + 1) (by omega) (by omega), w (k + 1 + 1 + 1 + 1) (by omega) (by omega), w (k + 1 + 1 + 1 + 1 + 1) (by omega) (by omega), w (k + 1 + 1 + 1 + 1 + 1 + 1) (by omega) (by omega), w (k + 1 + 1 + 1 + 1 + 1 + 1 + 1) (by omega) (by omega), w (k + 1 + 1 + 1 + 1 + 1 + 1 + 1 + 1) (by omega) (by omega), w ((i : Int) + 1) (by omega) (by omega), h3, cond_true, e1, e2, Option.bind_some, List.length_set]
  have hc : 0 ≤ (i : Int) ∧ (i : Int) < ((o.length : Nat) : Int) := ⟨by omega, by omega⟩
  simp only [if_pos hc]
  refine ⟨_, ?_, by rw [show k + 1 + 1 + 1 + 1 + 1 + 1 + 1 + 1 = k + 8 from by omega]; rfl⟩
  simp
theorem p_markLossS (a : List TLoss) (hn : a.length ≤ 1000000000) : ∃ o : List TLoss, o.length = a.length ∧ G.l_markLossS a 1 = some (o, 1 + 8 * (a.length : Int)) := by
  unfold G.l_markLossS
  have hh := iter_go (step := G.l_markLossS.s0) (n := a.length) (A := List TLoss) (g := fun o => (o, 1 + 8 * (a.length : Int))) (fun i o => (o, 1 + 8 * (i : Int), (i : Int))) (fun i o => o.length = a.length) (fun _ => False) ?_ ?_ a.length 0 a (by omega) rfl
  · rcases hh with ⟨o, h1, h⟩ | ⟨r, hr, _⟩
    · refine ⟨o, h1, ?_⟩
      have h : iter G.l_markLossS.s0 (a, 1, 0) = _ := h
      rw [h]
      rfl
    · exact hr.elim
  · rintro i o hi h1
    obtain ⟨o', h2, h3⟩ := s_markLossS o i (1 + 8 * (i : Int)) (by omega) (by omega) (by omega) (by omega)
    refine .inl ⟨o', ?_, by omega⟩
    rw [h3]
    congr 4
  · rintro o h1
    have h3 : decide (((a.length : Nat) : Int) < ((o.length : Nat) : Int)) = false := by simp; omega
    simp only [G.l_markLossS.s0]
    rw [h3]
    rfl
end Go.Proofs.Ytnhgffhnfegiiaa.Fw
namespace Go.Proofs.Ytnhgffhnfegiiaa.Fw
open Go.RowKit
set_option linter.unusedVariables false
set_option linter.unusedSimpArgs false
def chOk (c : Int) : Bool := inR c 97 122 || inR c 48 57
def nameOk (s : ByteArray) : Bool := !(decide (s.size = 0) || decide ((10 : Int) < ((s.size : Nat) : Int))) && (inR (byteAt s 0) 97 122 && (List.range' 0 s.size).all fun i => chOk (byteAt s i))
theorem p_l01Name (s : ByteArray) (hs : s.size ≤ 9223372036854775807) : G.s_l01Name s = some (nameOk s) := by
  have hit : iter (G.s_l01Name.s0 s) 0 = some (if (List.range' 0 s.size).all (fun i => chOk (byteAt s i)) then .inl () else .inr false) := by
    refine iter_scan (step := G.s_l01Name.s0 s) (n := s.size) (p := fun i => chOk (byteAt s i)) (v := ()) (r := false) ?_ ?_ s.size 0 (by omega)
    · intro i hi
      have h1 : decide ((i : Int) < ((s.size : Nat) : Int)) = true := by simp; omega
      have hc : 0 ≤ (i : Int) ∧ (i : Int) < ((s.size : Nat) : Int) := ⟨by omega, by omega⟩
      simp only [G.s_l01Name.s0, h1, cond_true, if_pos hc, p_l01Small, p_l01Digit, Int.toNat_natCast, Option.bind_some, chOk]
      rw [wrap64 (by omega) (by omega)]
      rcases Bool.eq_false_or_eq_true (inR (byteAt s i) 97 122) with h5 | h5 <;> rcases Bool.eq_false_or_eq_true (inR (byteAt s i) 48 57) with h6 | h6 <;> simp [h5, h6]
    · have h1 : decide (((s.size : Nat) : Int) < ((s.size : Nat) : Int)) = false := by simp
      simp only [G.s_l01Name.s0, h1, cond_false]
  unfold G.s_l01Name nameOk
  rw [hit]
  by_cases c0 : s.size = 0
  · simp [c0]
  · by_cases c1 : (10 : Int) < ((s.size : Nat) : Int)
    · simp [c0, c1]
    · have hc : 0 ≤ (0 : Int) ∧ (0 : Int) < ((s.size : Nat) : Int) := ⟨by omega, by omega⟩
      simp only [c0, c1, decide_false, cond_false, Option.bind_some, if_pos hc, p_l01Small, Bool.or_self, Bool.not_false, Bool.true_and]
      cases inR (byteAt s 0) 97 122
      · rfl
      · cases (List.range' 0 s.size).all fun i => chOk (byteAt s i) <;> rfl
theorem lt_not (a b : Int) : decide (a < b) = !decide (b ≤ a) := by
  by_cases h : a < b
  · simp [h, Int.not_le.2 h]
  · simp [h, Int.not_lt.1 h]
theorem p_IsName (s : ByteArray) (hs : s.size ≤ 9223372036854775807) : G.i_IsName s = some (nameOk s) := by
  have hit : iter (G.i_IsName.s0 s) 0 = some (if (List.range' 0 s.size).all (fun i => chOk (byteAt s i)) then .inl () else .inr false) := by
    refine iter_scan (step := G.i_IsName.s0 s) (n := s.size) (p := fun i => chOk (byteAt s i)) (v := ()) (r := false) ?_ ?_ s.size 0 (by omega)
    · intro i hi
      have h1 : decide ((i : Int) < ((s.size : Nat) : Int)) = true := by simp; omega
      have hc : 0 ≤ (i : Int) ∧ (i : Int) < ((s.size : Nat) : Int) := ⟨by omega, by omega⟩
      simp only [G.i_IsName.s0, h1, cond_true, if_pos hc, Int.toNat_natCast, Option.bind_some, chOk, inR]
      rw [wrap64 (by omega) (by omega), lt_not (byteAt s i) 97, lt_not 122 (byteAt s i), lt_not (byteAt s i) 48, lt_not 57 (byteAt s i)]
      by_cases h5 : 97 ≤ byteAt s i <;> by_cases h6 : byteAt s i ≤ 122 <;> by_cases h7 : 48 ≤ byteAt s i <;> by_cases h8 : byteAt s i ≤ 57 <;> simp [h5, h6, h7, h8]
    · have h1 : decide (((s.size : Nat) : Int) < ((s.size : Nat) : Int)) = false := by simp
      simp only [G.i_IsName.s0, h1, cond_false]
  unfold G.i_IsName nameOk
  rw [hit]
  by_cases c0 : s.size = 0
  · simp [c0]
  · by_cases c1 : (10 : Int) < ((s.size : Nat) : Int)
    · have c2 : ¬ ((s.size : Nat) : Int) < 1 := by omega
      simp [c0, c1, c2]
    · have hc : 0 ≤ (0 : Int) ∧ (0 : Int) < ((s.size : Nat) : Int) := ⟨by omega, by omega⟩
      have c2 : ¬ ((s.size : Nat) : Int) < 1 := by omega
      simp only [c0, c1, c2, decide_false, cond_false, Option.bind_some, if_pos hc, Bool.or_self, Bool.not_false, Bool.true_and, inR, lt_not (byteAt s 0) 97, lt_not 122 (byteAt s 0)]
      cases decide (97 ≤ byteAt s 0) <;> cases decide (byteAt s 0 ≤ 122) <;> cases (List.range' 0 s.size).all fun i => chOk (byteAt s i) <;> rfl
end Go.Proofs.Ytnhgffhnfegiiaa.Fw
namespace Go.Proofs.Ytnhgffhnfegiiaa.Fw
open Go.RowKit
set_option linter.unusedVariables false
set_option linter.unusedSimpArgs false
def names : List ByteArray := [(⟨#[97, 115, 104]⟩ : ByteArray), (⟨#[98, 101, 101, 99, 104]⟩ : ByteArray), (⟨#[98, 105, 114, 99, 104]⟩ : ByteArray), (⟨#[99, 104, 101, 114, 114, 121]⟩ : ByteArray), (⟨#[101, 98, 111, 110, 121]⟩ : ByteArray), (⟨#[104, 111, 108, 108, 121]⟩ : ByteArray), (⟨#[109, 97, 112, 108, 101]⟩ : ByteArray), (⟨#[111, 97, 107]⟩ : ByteArray), (⟨#[114, 111, 115, 101, 119, 111, 111, 100]⟩ : ByteArray), (⟨#[119, 97, 108, 110, 117, 116]⟩ : ByteArray)]
theorem f_step (n : ByteArray) (i : Nat) (hi : i < 10) : G.s_l07Find.s0 n names (i : Int) = if decide (names.getD i default = n) = true then some (.inr (.inr (i : Int))) else some (.inl ((i + 1 : Nat) : Int)) := by
  have h1 : decide ((i : Int) < ((names.length : Nat) : Int)) = true := by simp [names]; omega
  have hc : 0 ≤ (i : Int) ∧ (i : Int) < ((names.length : Nat) : Int) := ⟨by omega, by simp [names]; omega⟩
  simp only [G.s_l07Find.s0, h1, cond_true, if_pos hc, Int.toNat_natCast]
  rw [wrap64 (by omega) (by omega)]
  by_cases h : names.getD i default = n
  · simp only [h, decide_true, cond_true, if_true]
  · simp only [h, decide_false, cond_false, Bool.false_eq_true, if_false]
    rfl
theorem f_end (n : ByteArray) : G.s_l07Find.s0 n names ((10 : Nat) : Int) = some (.inr (.inl ())) := rfl
/-- The place of a name. -/
def findN (n : ByteArray) : Nat → Nat → Int
  | 0, _ => -1
  | m + 1, k => if names.getD k default = n then (k : Int) else findN n m (k + 1)
theorem f_iter (n : ByteArray) : ∀ (m k : Nat), k + m = 10 → iter (G.s_l07Find.s0 n names) (k : Int) = some (if findN n m k = -1 then .inl () else .inr (findN n m k)) := by
  intro m
  induction m with
  | zero =>
    intro k hk
    have : k = 10 := by omega
    subst this
    rw [iter_inr (f_end n)]
    simp [findN]
  | succ m ih =>
    intro k hk
    have h1 := f_step n k (by omega)
    by_cases h : names.getD k default = n
    · rw [if_pos (by simpa using h)] at h1
      rw [iter_inr h1]
      have : ¬ (k : Int) = -1 := by omega
      simp only [findN, if_pos h, if_neg this]
    · rw [if_neg (by simpa using h)] at h1
      rw [iter_inl h1, ih (k + 1) (by omega)]
      simp only [findN, if_neg h]
theorem p_l07Find (n : ByteArray) : G.s_l07Find n = some (findN n 10 0) := by
  unfold G.s_l07Find
  have h : G.s_l07Names = some names := rfl
  rw [h]
  show jn (iter (G.s_l07Find.s0 n names) ((0 : Nat) : Int)) _ = _
  rw [f_iter n 10 0 rfl]
  by_cases h : findN n 10 0 = -1
  · rw [if_pos h, h]; rfl
  · rw [if_neg h]; rfl
end Go.Proofs.Ytnhgffhnfegiiaa.Fw
namespace Go.Proofs.Ytnhgffhnfegiiaa.Fw
open Go.RowKit
set_option linter.unusedVariables false
set_option linter.unusedSimpArgs false
/-- What is told of a species: its shade and whether it is one. -/
theorem species (n : ByteArray) : (∃ k : Nat, k < 10 ∧ n = names.getD k default ∧ findN n 10 0 = (k : Int)) ∨ (findN n 10 0 = -1 ∧ ∀ k : Nat, k < 10 → n ≠ names.getD k default) := by
  have main : ∀ m k, k + m = 10 → (∃ j : Nat, k ≤ j ∧ j < 10 ∧ n = names.getD j default ∧ findN n m k = (j : Int)) ∨ (findN n m k = -1 ∧ ∀ j : Nat, k ≤ j → j < 10 → n ≠ names.getD j default) := by
    intro m
    induction m with
    | zero => intro k hk; exact .inr ⟨rfl, fun j h1 h2 => by omega⟩
    | succ m ih =>
      intro k hk
      by_cases h : names.getD k default = n
      · exact .inl ⟨k, Nat.le_refl _, by omega, h.symm, by simp only [findN, if_pos h]⟩
      · rcases ih (k + 1) (by omega) with ⟨j, h1, h2, h3, h4⟩ | ⟨h1, h2⟩
        · exact .inl ⟨j, by omega, h2, h3, by simp only [findN, if_neg h]; exact h4⟩
        · refine .inr ⟨by simp only [findN, if_neg h]; exact h1, fun j h3 h4 => ?_⟩
          by_cases e : j = k
          · subst e; exact fun hc => h hc.symm
          · exact h2 j (by omega) h4
  rcases main 10 0 rfl with ⟨j, _, h2, h3, h4⟩ | ⟨h1, h2⟩
  · exact .inl ⟨j, h2, h3, h4⟩
  · exact .inr ⟨h1, fun k hk => h2 k (Nat.zero_le _) hk⟩
def veneerB (c sh gr : Int) : Bool := inR sh 0 100 && inR sh (c - 15) (c + 15) && inR gr 0 179
theorem v_impl (n : ByteArray) (sh gr c x y : Int) (hsh : -9223372036854775808 ≤ sh ∧ sh ≤ 9223372036854775807) (hc : 0 ≤ c ∧ c ≤ 100) (h : G.i_SpeciesData n = some (c, x, y, 0)) : G.i_ValidVeneer n sh gr = some (veneerB c sh gr) := by
  have hi : -1000000 ≤ sh ∧ sh ≤ 1000000 → inR (IntKind.wrap .i64 (sh - c)) (-15) 15 = inR sh (c - 15) (c + 15) := fun h => by
    rw [wrap64 (by omega) (by omega)]
    unfold inR
    rw [Bool.eq_iff_iff]
    simp only [Bool.and_eq_true, decide_eq_true_eq]
    omega
  simp only [G.i_ValidVeneer, G.i_speciesShade, h, Option.bind_some, decide_true, cond_true, p_within, veneerB]
  rcases Bool.eq_false_or_eq_true (inR sh 0 100) with h0 | h0
  · rw [h0, hi (by simp only [inR, Bool.and_eq_true, decide_eq_true_eq] at h0; omega)]
    cases inR sh (c - 15) (c + 15) <;> cases inR gr 0 179 <;> rfl
  · rw [h0]
    rfl
theorem v_spec (n : ByteArray) (sh gr c : Int) (k : Nat) (hk : k < 10) (hc : 0 ≤ c ∧ c ≤ 100) (hf : findN n 10 0 = (k : Int)) (t : List (List Int)) (ht : G.s_l07Table = some t) (hl : t.length = 10) (hr : ∃ a b, t.getD k default = [c, a, b]) : G.s_l07Ok n sh gr = some (veneerB c sh gr) := by
  obtain ⟨a, b, hr⟩ := hr
  have h0 : decide ((k : Int) < 0) = false := by simp
  have h1 : 0 ≤ (k : Int) ∧ (k : Int) < ((t.length : Nat) : Int) := ⟨by omega, by omega⟩
  have hw1 : IntKind.wrap .i64 (c - 15) = c - 15 := wrap64 (by omega) (by omega)
  have hw2 : IntKind.wrap .i64 (c + 15) = c + 15 := wrap64 (by omega) (by omega)
  simp only [G.s_l07Ok, p_l07Find, hf, Option.bind_some, h0, cond_false, p_l00In, ht, if_pos h1, Int.toNat_natCast, hr, G.s_l07Grain, veneerB]
  have h2 : (0 : Int) ≤ 0 ∧ (0 : Int) < (([c, a, b].length : Nat) : Int) := ⟨by omega, by simp⟩
  simp only [if_pos h2, List.getD_cons_zero, hw1, hw2, Option.bind_some]
  cases inR sh 0 100 <;> cases inR sh (c - 15) (c + 15) <;> cases inR gr 0 179 <;> rfl
theorem p_veneer3 (n : ByteArray) (sh gr : Int) (hsh : -9223372036854775808 ≤ sh ∧ sh ≤ 9223372036854775807) : ∃ b, G.s_l07Ok n sh gr = some b ∧ G.i_ValidVeneer n sh gr = some b ∧ (b = true → n.size ≤ 20 ∧ inR sh 0 100 = true ∧ inR gr 0 179 = true) := by
  rcases species n with ⟨k, hk, hn, hf⟩ | ⟨hf, hno⟩
  · have hcs : k = 0 ∨ k = 1 ∨ k = 2 ∨ k = 3 ∨ k = 4 ∨ k = 5 ∨ k = 6 ∨ k = 7 ∨ k = 8 ∨ k = 9 := by omega
    rcases hcs with rfl | rfl | rfl | rfl | rfl | rfl | rfl | rfl | rfl | rfl <;> subst hn <;> exact ⟨_, v_spec _ sh gr _ _ hk (by constructor <;> decide) hf _ rfl rfl ⟨_, _, rfl⟩, v_impl _ sh gr _ _ _ hsh (by constructor <;> decide) rfl, fun h => ⟨by decide, by simp only [veneerB, Bool.and_eq_true] at h; exact ⟨h.1.1, h.2⟩⟩⟩
  · refine ⟨false, ?_, ?_, fun h => by cases h⟩
    · simp only [G.s_l07Ok, p_l07Find, hf, Option.bind_some]
      rfl
    · have e : ∀ k : Nat, k < 10 → decide (n = names.getD k default) = false := fun k hk => by simpa using hno k hk
      have h : G.i_speciesShade n = some (0, false) := by
        simp only [G.i_speciesShade, G.i_SpeciesData]
        have e0 := e 0 (by omega); have e1 := e 1 (by omega); have e2 := e 2 (by omega); have e3 := e 3 (by omega); have e4 := e 4 (by omega)
        have e5 := e 5 (by omega); have e6 := e 6 (by omega); have e7 := e 7 (by omega); have e8 := e 8 (by omega); have e9 := e 9 (by omega)
        simp only [names, List.getD_cons_zero, List.getD_cons_succ] at e0 e1 e2 e3 e4 e5 e6 e7 e8 e9
        simp only [e0, e1, e2, e3, e4, e5, e6, e7, e8, e9, cond_false]
        rfl
      simp only [G.i_ValidVeneer, h, Option.bind_some]
      rfl
theorem p_veneer (n : ByteArray) (sh gr : Int) (hsh : -9223372036854775808 ≤ sh ∧ sh ≤ 9223372036854775807) : ∃ b, G.s_l07Ok n sh gr = some b ∧ G.i_ValidVeneer n sh gr = some b := by
  obtain ⟨b, h1, h2, _⟩ := p_veneer3 n sh gr hsh
  exact ⟨b, h1, h2⟩
end Go.Proofs.Ytnhgffhnfegiiaa.Fw
namespace Go.Proofs.Ytnhgffhnfegiiaa.Fw
open Go.RowKit
set_option linter.unusedVariables false
set_option linter.unusedSimpArgs false
def fitLoss (x : TLoss) : Prop := smallLoss x ∧ -9223372036854775808 ≤ x.Veneer.Shade ∧ x.Veneer.Shade ≤ 9223372036854775807
structure lossGood (x : TLoss) : Prop where
  name : nameOk x.Name = true
  spec : x.Veneer.Species.size ≤ 20
  shade : inR x.Veneer.Shade 0 100 = true
  grain : inR x.Veneer.Grain 0 179 = true
  area : inR x.Area 1 400000000 = true
  pri : inR x.Priority 1 9 = true
  cost : inR x.Cost 0 1000000 = true
  mins : inR x.Minutes 0 10000 = true
  ven : G.i_ValidVeneer x.Veneer.Species x.Veneer.Shade x.Veneer.Grain = some true
theorem p_lossOne3 (x : TLoss) (hx : fitLoss x) : ∃ b, G.s_l25One x.Name x.Veneer.Species x.Veneer.Shade x.Veneer.Grain x.Area x.Priority x.Cost x.Minutes = some b ∧ G.i_ValidLoss x.Name x.Veneer.Species x.Veneer.Shade x.Veneer.Grain x.Area x.Priority x.Cost x.Minutes = some b ∧ (b = true → lossGood x) := by
  obtain ⟨⟨h1, h2⟩, h3⟩ := hx
  obtain ⟨v, hv1, hv2, hv3⟩ := p_veneer3 x.Veneer.Species x.Veneer.Shade x.Veneer.Grain h3
  refine ⟨nameOk x.Name && v && inR x.Area 1 400000000 && inR x.Priority 1 9 && inR x.Cost 0 1000000 && inR x.Minutes 0 10000, ?_, ?_, ?_⟩
  · simp only [G.s_l25One, p_l01Name x.Name h1, hv1, p_l00In, Option.bind_some]
    cases nameOk x.Name <;> cases v <;> cases inR x.Area 1 400000000 <;> cases inR x.Priority 1 9 <;> cases inR x.Cost 0 1000000 <;> cases inR x.Minutes 0 10000 <;> rfl
  · simp only [G.i_ValidLoss, p_IsName x.Name h1, hv2, p_within, Option.bind_some]
    cases nameOk x.Name <;> cases v <;> cases inR x.Area 1 400000000 <;> cases inR x.Priority 1 9 <;> cases inR x.Cost 0 1000000 <;> cases inR x.Minutes 0 10000 <;> rfl
  · intro h
    simp only [Bool.and_eq_true] at h
    obtain ⟨e1, e2, e3⟩ := hv3 h.1.1.1.1.2
    exact ⟨h.1.1.1.1.1, e1, e2, e3, h.1.1.1.2, h.1.1.2, h.1.2, h.2, by rw [hv2, h.1.1.1.1.2]⟩
theorem p_lossOne (x : TLoss) (hx : fitLoss x) : ∃ b, G.s_l25One x.Name x.Veneer.Species x.Veneer.Shade x.Veneer.Grain x.Area x.Priority x.Cost x.Minutes = some b ∧ G.i_ValidLoss x.Name x.Veneer.Species x.Veneer.Shade x.Veneer.Grain x.Area x.Priority x.Cost x.Minutes = some b ∧ (b = true → inR x.Priority 1 9 = true ∧ inR x.Cost 0 1000000 = true) := by
  obtain ⟨b, h1, h2, h3⟩ := p_lossOne3 x hx
  exact ⟨b, h1, h2, fun h => ⟨(h3 h).pri, (h3 h).cost⟩⟩
theorem fit_get {a : List TLoss} (ha : ∀ x ∈ a, fitLoss x) {i : Nat} (hi : i < a.length) : fitLoss (a.getD i default) := by
  rw [List.getD_eq_getElem?_getD, List.getElem?_eq_getElem hi, Option.getD_some]
  exact ha _ (List.getElem_mem hi)
/-- Both lists' tests tell the same. -/
theorem p_losses (a : List TLoss) (ha : ∀ x ∈ a, fitLoss x) (hn : a.length ≤ 1000000000) : ∃ b, G.s_l25Ok a = some b ∧ G.i_ValidLosses a = some b ∧ (b = true → a.length ≤ 16 ∧ ∀ i, i < a.length → inR (a.getD i default).Priority 1 9 = true ∧ inR (a.getD i default).Cost 0 1000000 = true) := by
  have hstep : ∀ i : Nat, i < a.length → ∃ b, G.s_l25Ok.s0 a (i : Int) = (if b = true then some (.inl ((i + 1 : Nat) : Int)) else some (.inr (.inr false))) ∧ G.i_ValidLosses.s0 a (i : Int) = (if b = true then some (.inl ((i + 1 : Nat) : Int)) else some (.inr (.inr false))) ∧ (b = true → inR (a.getD i default).Priority 1 9 = true ∧ inR (a.getD i default).Cost 0 1000000 = true) := by
    intro i hi
    obtain ⟨b, h1, h2, h3⟩ := p_lossOne _ (fit_get ha hi)
    have hd : decide ((i : Int) < ((a.length : Nat) : Int)) = true := by simp; omega
    have hc : 0 ≤ (i : Int) ∧ (i : Int) < ((a.length : Nat) : Int) := ⟨by omega, by omega⟩
    have hw : IntKind.wrap .i64 ((i : Int) + 1) = (i : Int) + 1 := wrap64 (by omega) (by omega)
    have hw2 : IntKind.wrap .i64 ((i : Int) - 1) = (i : Int) - 1 := wrap64 (by omega) (by omega)
    by_cases hb : b = true
    · subst hb
      by_cases h0 : 0 < (i : Int)
      · have hc2 : 0 ≤ (i : Int) - 1 ∧ (i : Int) - 1 < ((a.length : Nat) : Int) := ⟨by omega, by omega⟩
        refine ⟨strLt (a.getD ((i : Int) - 1).toNat default).Name (a.getD i default).Name, ?_, ?_, fun _ => h3 rfl⟩
        · simp only [G.s_l25Ok.s0, hd, cond_true, if_pos hc, Int.toNat_natCast, h1, Option.bind_some, h0, decide_true, hw, hw2, if_pos hc2]
          rcases Bool.eq_false_or_eq_true (strLt (a.getD ((i : Int) - 1).toNat default).Name (a.getD i default).Name) with e | e <;> simp [e]
        · simp only [G.i_ValidLosses.s0, hd, cond_true, if_pos hc, Int.toNat_natCast, h2, Option.bind_some, h0, decide_true, hw, hw2, if_pos hc2]
          rcases Bool.eq_false_or_eq_true (strLt (a.getD ((i : Int) - 1).toNat default).Name (a.getD i default).Name) with e | e <;> simp [e]
      · refine ⟨true, ?_, ?_, fun _ => h3 rfl⟩
        · simp only [G.s_l25Ok.s0, hd, cond_true, if_pos hc, Int.toNat_natCast, h1, Option.bind_some, h0, decide_false, cond_false, hw]
          simp
        · simp only [G.i_ValidLosses.s0, hd, cond_true, if_pos hc, Int.toNat_natCast, h2, Option.bind_some, h0, decide_false, cond_false, hw]
          simp
    · have hb : b = false := by simpa using hb
      subst hb
      refine ⟨false, ?_, ?_, fun h => by cases h⟩
      · simp only [G.s_l25Ok.s0, hd, cond_true, if_pos hc, Int.toNat_natCast, h1, Option.bind_some, cond_false]
        simp
      · simp only [G.i_ValidLosses.s0, hd, cond_true, if_pos hc, Int.toNat_natCast, h2, Option.bind_some, cond_false]
        simp
  have hz : decide (((a.length : Nat) : Int) < ((a.length : Nat) : Int)) = false := by simp
  have hend1 : G.s_l25Ok.s0 a (a.length : Int) = some (.inr (.inl ())) := by simp only [G.s_l25Ok.s0, hz, cond_false]
  have hend2 : G.i_ValidLosses.s0 a (a.length : Int) = some (.inr (.inl ())) := by simp only [G.i_ValidLosses.s0, hz, cond_false]
  have main : ∀ m k : Nat, k + m = a.length → ∃ e, iter (G.s_l25Ok.s0 a) (k : Int) = some e ∧ iter (G.i_ValidLosses.s0 a) (k : Int) = some e ∧ ((e = .inl () ∧ ∀ j, k ≤ j → j < a.length → inR (a.getD j default).Priority 1 9 = true ∧ inR (a.getD j default).Cost 0 1000000 = true) ∨ e = .inr false) := by
    intro m
    induction m with
    | zero =>
      intro k hk
      have : k = a.length := by omega
      subst this
      exact ⟨_, iter_inr hend1, iter_inr hend2, .inl ⟨rfl, fun j h1 h2 => by omega⟩⟩
    | succ m ih =>
      intro k hk
      obtain ⟨b, h1, h2, h3⟩ := hstep k (by omega)
      cases b with
      | true =>
        obtain ⟨e, h4, h5, h6⟩ := ih (k + 1) (by omega)
        refine ⟨e, (iter_inl (by simpa using h1)).trans h4, (iter_inl (by simpa using h2)).trans h5, h6.imp (fun ⟨h7, h8⟩ => ⟨h7, fun j h9 h10 => ?_⟩) id⟩
        by_cases e : j = k
        · subst e; exact h3 rfl
        · exact h8 j (by omega) h10
      | false => exact ⟨_, iter_inr (by simpa using h1), iter_inr (by simpa using h2), .inr rfl⟩
  obtain ⟨e, h1, h2, h3⟩ := main a.length 0 (by omega)
  have h1 : iter (G.s_l25Ok.s0 a) 0 = some e := h1
  have h2 : iter (G.i_ValidLosses.s0 a) 0 = some e := h2
  rcases h3 with ⟨rfl, h4⟩ | rfl
  · refine ⟨decide (((a.length : Nat) : Int) ≤ 16), ?_, ?_, fun h => ⟨by have := of_decide_eq_true h; omega, fun i hi => h4 i (Nat.zero_le _) hi⟩⟩
    · unfold G.s_l25Ok; rw [h1]; rfl
    · unfold G.i_ValidLosses; rw [h2]; rfl
  · refine ⟨false, ?_, ?_, fun h => by cases h⟩
    · unfold G.s_l25Ok; rw [h1]; rfl
    · unfold G.i_ValidLosses; rw [h2]; rfl
end Go.Proofs.Ytnhgffhnfegiiaa.Fw
namespace Go.Proofs.Ytnhgffhnfegiiaa.Fw
open Go.RowKit
set_option linter.unusedVariables false
set_option linter.unusedSimpArgs false
/-- Where a run from the end stops: the places from there on hold `f`. -/
def scanR (f : Nat → Bool) : Nat → Nat
  | 0 => 0
  | n + 1 => if f n = true then scanR f n else n + 1
theorem scanR_le (f : Nat → Bool) (n : Nat) : scanR f n ≤ n := by
  induction n with
  | zero => exact Nat.le_refl _
  | succ n ih =>
    unfold scanR
    split
    · omega
    · omega
theorem scanR_ext {f g : Nat → Bool} (n : Nat) (h : ∀ j, j < n → f j = g j) : scanR f n = scanR g n := by
  induction n with
  | zero => rfl
  | succ n ih =>
    unfold scanR
    rw [h n (by omega), ih fun j hj => h j (by omega)]
/-- A loop downwards. -/
theorem iter_down {S V R : Type} {step : S → Option (S ⊕ (V ⊕ R))} (f : Nat → Bool) (st : Nat → S) (g : Nat → V) (h0 : step (st 0) = some (.inr (.inl (g 0)))) :
    ∀ n : Nat, (∀ j, j < n → step (st (j + 1)) = if f j = true then some (.inl (st j)) else some (.inr (.inl (g (j + 1))))) → iter step (st n) = some (.inl (g (scanR f n))) := by
  intro n
  induction n with
  | zero => intro _; exact iter_inr h0
  | succ n ih =>
    intro hs
    have h1 := hs n (by omega)
    unfold scanR
    by_cases hf : f n = true
    · rw [if_pos hf] at h1 ⊢
      rw [iter_inl h1, ih fun j hj => hs j (by omega)]
    · rw [if_neg hf] at h1 ⊢
      exact iter_inr h1
def insT (lt : Int → Int → Bool) (x : Int) (p : List Int) : List Int :=
  p.take (scanR (fun j => lt x (p.getD j default)) p.length) ++ x :: p.drop (scanR (fun j => lt x (p.getD j default)) p.length)
theorem insT_length (lt : Int → Int → Bool) (x : Int) (p : List Int) : (insT lt x p).length = p.length + 1 := by
  have := scanR_le (fun j => lt x (p.getD j default)) p.length
  simp only [insT, List.length_append, List.length_take, List.length_cons, List.length_drop]
  omega
theorem insT_mem {lt : Int → Int → Bool} {x y : Int} {p : List Int} (h : y ∈ insT lt x p) : y = x ∨ y ∈ p := by
  simp only [insT, List.mem_append, List.mem_cons] at h
  rcases h with h | h | h
  · exact .inr (List.mem_of_mem_take h)
  · exact .inl h
  · exact .inr (List.mem_of_mem_drop h)
/-- The places 0..n-1, put in one after another. -/
def sortedT (lt : Int → Int → Bool) : Nat → List Int
  | 0 => []
  | n + 1 => insT lt (n : Int) (sortedT lt n)
theorem sortedT_length (lt : Int → Int → Bool) (n : Nat) : (sortedT lt n).length = n := by
  induction n with
  | zero => rfl
  | succ n ih => simp only [sortedT, insT_length, ih]
theorem sortedT_mem (lt : Int → Int → Bool) (n : Nat) : ∀ y ∈ sortedT lt n, 0 ≤ y ∧ y < (n : Int) := by
  induction n with
  | zero => intro y hy; cases hy
  | succ n ih =>
    intro y hy
    rcases insT_mem hy with rfl | h
    · omega
    · have := ih y h; omega
theorem sortedT_get (lt : Int → Int → Bool) (n : Nat) {j : Nat} (hj : j < n) : 0 ≤ (sortedT lt n).getD j default ∧ (sortedT lt n).getD j default < (n : Int) := by
  rw [List.getD_eq_getElem?_getD, List.getElem?_eq_getElem (by rw [sortedT_length]; exact hj), Option.getD_some]
  exact sortedT_mem lt n _ (List.getElem_mem _)
/-- One step downwards of a value within a list. -/
theorem swap_down (p rest : List Int) (x : Int) (j : Nat) (hj : j < p.length) :
    ((p.take (j + 1) ++ x :: p.drop (j + 1) ++ rest).getD j default = p.getD j default) ∧ ((p.take (j + 1) ++ x :: p.drop (j + 1) ++ rest).getD (j + 1) default = x) ∧
    (((p.take (j + 1) ++ x :: p.drop (j + 1) ++ rest).set (j + 1) (p.getD j default)).set j x = p.take j ++ x :: p.drop j ++ rest) := by
  obtain ⟨u, y, w, rfl, hu⟩ : ∃ u y w, p = u ++ y :: w ∧ u.length = j := by
    refine ⟨p.take j, p[j], p.drop (j + 1), ?_, by rw [List.length_take]; omega⟩
    rw [List.getElem_cons_drop, List.take_append_drop]
  subst hu
  have e1 : (u ++ y :: w).take (u.length + 1) = u ++ [y] := by
    rw [List.take_append, List.take_of_length_le (by omega)]; simp
  have e2 : (u ++ y :: w).drop (u.length + 1) = w := by
    rw [List.drop_append]; simp
  have e3 : (u ++ y :: w).take u.length = u := by rw [List.take_append]; simp
  have e4 : (u ++ y :: w).drop u.length = y :: w := by rw [List.drop_append]; simp
  rw [e1, e2, e3, e4]
  refine ⟨?_, ?_, ?_⟩
  · simp [List.getD_eq_getElem?_getD]
  · simp [List.getD_eq_getElem?_getD, List.getElem?_append]
  · simp [List.set_append, List.getD_eq_getElem?_getD]
def datT (lt : Int → Int → Bool) (n i : Nat) : List Int := sortedT lt i ++ (List.range' i (n - i)).map Int.ofNat
theorem datT_length (lt : Int → Int → Bool) (n i : Nat) (h : i ≤ n) : (datT lt n i).length = n := by
  simp only [datT, List.length_append, sortedT_length, List.length_map, List.length_range']
  omega
theorem datT_open (lt : Int → Int → Bool) (n i : Nat) (h : i < n) : datT lt n i = (sortedT lt i).take i ++ (i : Int) :: (sortedT lt i).drop i ++ (List.range' (i + 1) (n - (i + 1))).map Int.ofNat := by
  have e : n - i = (n - (i + 1)) + 1 := by omega
  rw [datT, e, List.range'_succ, List.take_of_length_le (by rw [sortedT_length]; exact Nat.le_refl _), List.drop_eq_nil_of_le (by rw [sortedT_length]; exact Nat.le_refl _)]
  simp
theorem idx_succ (n : Nat) : (List.range' 0 n).map Int.ofNat ++ [(n : Int)] = (List.range' 0 (n + 1)).map Int.ofNat := by
  rw [List.range'_1_concat]; simp
end Go.Proofs.Ytnhgffhnfegiiaa.Fw
namespace Go.Proofs.Ytnhgffhnfegiiaa.Fw
open Go.RowKit
set_option linter.unusedVariables false
set_option linter.unusedSimpArgs false
def soonL (a : List TLoss) (x y : Int) : Bool := decide ((a.getD y.toNat default).Priority < (a.getD x.toNat default).Priority) || (decide ((a.getD x.toNat default).Priority = (a.getD y.toNat default).Priority) && decide ((a.getD x.toNat default).Cost < (a.getD y.toNat default).Cost))
theorem p_l25Sooner (p q : TLoss) : G.s_l25Sooner p.Name p.Veneer.Species p.Veneer.Shade p.Veneer.Grain p.Area p.Priority p.Cost p.Minutes q.Name q.Veneer.Species q.Veneer.Shade q.Veneer.Grain q.Area q.Priority q.Cost q.Minutes = some (decide (q.Priority < p.Priority) || (decide (p.Priority = q.Priority) && decide (p.Cost < q.Cost))) := by
  simp only [G.s_l25Sooner]
  cases decide (q.Priority < p.Priority) <;> cases decide (p.Priority = q.Priority) <;> rfl
theorem s1_l25Sorted (a : List TLoss) (i : Nat) (hi : i < a.length) (hn : a.length ≤ 1000000) :
    iter (G.s_l25Sorted.s1 a (sortedT (soonL a) i) (i : Int)) ((((sortedT (soonL a) i).length : Nat) : Int)) = some (.inl ((scanR (fun j => soonL a i ((sortedT (soonL a) i).getD j default)) (sortedT (soonL a) i).length : Nat) : Int)) := by
  refine iter_down (step := G.s_l25Sorted.s1 a (sortedT (soonL a) i) (i : Int)) (fun j => soonL a i ((sortedT (soonL a) i).getD j default)) (fun j => ((j : Nat) : Int)) (fun j => ((j : Nat) : Int)) rfl _ fun j hj => ?_
  rw [sortedT_length] at hj
  have hg := sortedT_get (soonL a) i hj
  have h1 : decide ((0 : Int) < ((j + 1 : Nat) : Int)) = true := decide_eq_true (by omega)
  have h2 : IntKind.wrap .i64 (((j + 1 : Nat) : Int) - 1) = (j : Int) := by rw [wrap64 (by omega) (by omega)]; omega
  simp only [G.s_l25Sorted.s1, h1, cond_true, h2, sortedT_length, Int.toNat_natCast]
  rw [if_pos ⟨by omega, by omega⟩, if_pos ⟨by omega, by omega⟩, if_pos ⟨by omega, by omega⟩, p_l25Sooner]
  simp only [Option.bind_some]
  change (bif soonL a i ((sortedT (soonL a) i).getD j default) then _ else _) = _
  cases soonL a i ((sortedT (soonL a) i).getD j default) <;> rfl
theorem p_l25Sorted (a : List TLoss) (hn : a.length ≤ 1000000) : G.s_l25Sorted a = some (sortedT (soonL a) a.length) := by
  unfold G.s_l25Sorted
  have hh := iter_go (step := G.s_l25Sorted.s0 a) (n := a.length) (A := Unit) (g := fun _ => sortedT (soonL a) a.length) (fun i _ => (sortedT (soonL a) i, (i : Int))) (fun i _ => True) (fun _ => False) ?_ ?_ a.length 0 () (by omega) trivial
  · rcases hh with ⟨_, _, h⟩ | ⟨r, hr, _⟩
    · have h : iter (G.s_l25Sorted.s0 a) ([], 0) = _ := h
      rw [h]
      rfl
    · exact hr.elim
  · rintro i _ hi _
    refine .inl ⟨(), ?_, trivial⟩
    have h3 : decide ((i : Int) < ((a.length : Nat) : Int)) = true := decide_eq_true (by omega)
    have hs := scanR_le (fun j => soonL a i ((sortedT (soonL a) i).getD j default)) (sortedT (soonL a) i).length
    have hl := sortedT_length (soonL a) i
    have hw : IntKind.wrap .i64 ((i : Int) + 1) = ((i + 1 : Nat) : Int) := by rw [wrap64 (by omega) (by omega)]; omega
    simp only [G.s_l25Sorted.s0, h3, cond_true, s1_l25Sorted a i hi hn, jn, Option.bind_some, Sum.elim_inl, Int.toNat_natCast, hw]
    rw [if_pos ⟨by omega, by omega⟩]
    unfold G.s_l00Own
    have hk : ((sortedT (soonL a) i).take (scanR (fun j => soonL a i ((sortedT (soonL a) i).getD j default)) (sortedT (soonL a) i).length)).length ≤ i := by rw [List.length_take]; omega
    have hd : ((sortedT (soonL a) i).drop (scanR (fun j => soonL a i ((sortedT (soonL a) i).getD j default)) (sortedT (soonL a) i).length)).length ≤ i := by rw [List.length_drop]; omega
    rw [if_pos ⟨by omega, by omega⟩]
    simp only [Option.bind_some, List.length_append, List.length_cons, List.length_nil]
    rw [if_pos ⟨by omega, by omega⟩, if_pos ⟨by omega, by omega⟩, if_pos ⟨by omega, by omega⟩]
    simp only [sortedT, insT, List.append_assoc, List.singleton_append]
  · rintro _ _
    have h3 : decide (((a.length : Nat) : Int) < ((a.length : Nat) : Int)) = false := by simp
    simp only [G.s_l25Sorted.s0, h3, cond_false]
/-- Losses whose ranges keep all differences small. -/
def tameL (a : List TLoss) : Prop := a.length ≤ 16 ∧ ∀ i, i < a.length → inR (a.getD i default).Priority 1 9 = true ∧ inR (a.getD i default).Cost 0 1000000 = true
theorem inR_iff {n lo hi : Int} : inR n lo hi = true ↔ lo ≤ n ∧ n ≤ hi := by simp [inR]
theorem p_urgent_1 (a : List TLoss) (ha : tameL a) (x y : Nat) (hx : x < a.length) (hy : y < a.length) : ∃ r, G.i_urgent_1 (x : Int) (y : Int) a = some r ∧ decide (r < 0) = soonL a x y := by
  obtain ⟨h1, h2⟩ := ha.2 x hx
  obtain ⟨h3, h4⟩ := ha.2 y hy
  rw [inR_iff] at h1 h2 h3 h4
  simp only [G.i_urgent_1, soonL, Int.toNat_natCast]
  have hw1 : IntKind.wrap .i64 ((a.getD y default).Priority - (a.getD x default).Priority) = (a.getD y default).Priority - (a.getD x default).Priority := wrap64 (by omega) (by omega)
  have hw2 : IntKind.wrap .i64 ((a.getD x default).Cost - (a.getD y default).Cost) = (a.getD x default).Cost - (a.getD y default).Cost := wrap64 (by omega) (by omega)
  rw [if_pos ⟨by omega, by omega⟩, if_pos ⟨by omega, by omega⟩, if_pos ⟨by omega, by omega⟩, if_pos ⟨by omega, by omega⟩]
  simp only [hw1, hw2]
  clear hw1 hw2
  by_cases e : (a.getD y default).Priority - (a.getD x default).Priority = 0
  · refine ⟨(a.getD x default).Cost - (a.getD y default).Cost, by rw [decide_eq_true e]; rfl, ?_⟩
    rw [Bool.eq_iff_iff]
    simp only [decide_eq_true_eq, Bool.or_eq_true, Bool.and_eq_true]
    omega
  · refine ⟨(a.getD y default).Priority - (a.getD x default).Priority, by rw [decide_eq_false e]; rfl, ?_⟩
    rw [Bool.eq_iff_iff]
    simp only [decide_eq_true_eq, Bool.or_eq_true, Bool.and_eq_true]
    omega
theorem s1_insertion (a : List TLoss) (ha : tameL a) (i : Nat) (hi : i < a.length) :
    iter (G.slices_insertionSortCmpFunc_int64_3_i_urgent_1.s1 0 a) (datT (soonL a) a.length i, (i : Int)) = some (.inl (datT (soonL a) a.length (i + 1))) := by
  have hn := ha.1
  have hl := sortedT_length (soonL a) i
  rw [datT_open _ _ _ hi]
  generalize hr : (List.range' (i + 1) (a.length - (i + 1))).map Int.ofNat = rest
  have hrl : rest.length = a.length - (i + 1) := by rw [← hr]; simp
  have hh := iter_down (step := G.slices_insertionSortCmpFunc_int64_3_i_urgent_1.s1 0 a) (fun j => soonL a i ((sortedT (soonL a) i).getD j default)) (fun j => ((sortedT (soonL a) i).take j ++ (i : Int) :: (sortedT (soonL a) i).drop j ++ rest, (j : Int))) (fun j => (sortedT (soonL a) i).take j ++ (i : Int) :: (sortedT (soonL a) i).drop j ++ rest) rfl i fun j hj => ?_
  · rw [hh, datT, hr]
    simp only [sortedT, insT, hl]
  · obtain ⟨w1, w2, w3⟩ := swap_down (sortedT (soonL a) i) rest (i : Int) j (by omega)
    have hg := sortedT_get (soonL a) i hj
    have hL : ((sortedT (soonL a) i).take (j + 1) ++ (i : Int) :: (sortedT (soonL a) i).drop (j + 1) ++ rest).length = a.length := by
      simp only [List.length_append, List.length_take, List.length_cons, List.length_drop]
      omega
    generalize (sortedT (soonL a) i).take (j + 1) ++ (i : Int) :: (sortedT (soonL a) i).drop (j + 1) ++ rest = L at *
    generalize (sortedT (soonL a) i).take j ++ (i : Int) :: (sortedT (soonL a) i).drop j ++ rest = L' at *
    generalize (sortedT (soonL a) i).getD j default = y at *
    have h1 : decide ((0 : Int) < ((j + 1 : Nat) : Int)) = true := decide_eq_true (by omega)
    have h2 : IntKind.wrap .i64 (((j + 1 : Nat) : Int) - 1) = (j : Int) := by rw [wrap64 (by omega) (by omega)]; omega
    obtain ⟨yy, rfl⟩ : ∃ yy : Nat, y = (yy : Int) := ⟨y.toNat, by omega⟩
    obtain ⟨r, hr1, hr2⟩ := p_urgent_1 a ha i yy hi (by omega)
    simp only [G.slices_insertionSortCmpFunc_int64_3_i_urgent_1.s1, h1, cond_true, h2, Int.toNat_natCast, hL, List.length_set]
    have hc1 : 0 ≤ ((j + 1 : Nat) : Int) ∧ ((j + 1 : Nat) : Int) < ((a.length : Nat) : Int) := ⟨by omega, by omega⟩
    have hc2 : 0 ≤ (j : Int) ∧ (j : Int) < ((a.length : Nat) : Int) := ⟨by omega, by omega⟩
    simp only [if_pos hc1, if_pos hc2, w1, w2, hr1, Option.bind_some, hr2, w3]
    cases soonL a i yy <;> rfl
theorem p_insertion (a : List TLoss) (ha : tameL a) : G.slices_insertionSortCmpFunc_int64_3_i_urgent_1 ((List.range' 0 a.length).map Int.ofNat) 0 (a.length : Int) a = some (sortedT (soonL a) a.length) := by
  have hn := ha.1
  unfold G.slices_insertionSortCmpFunc_int64_3_i_urgent_1
  have hw : IntKind.wrap .i64 ((0 : Int) + 1) = ((1 : Nat) : Int) := wrap64 (by omega) (by omega)
  rw [hw]
  have hend : datT (soonL a) a.length a.length = sortedT (soonL a) a.length := by simp [datT]
  by_cases h0 : a.length = 0
  · rw [h0]
    have h : iter (G.slices_insertionSortCmpFunc_int64_3_i_urgent_1.s0 0 ((0 : Nat) : Int) a) ((List.range' 0 0).map Int.ofNat, ((1 : Nat) : Int)) = some (.inl []) := iter_inr rfl
    rw [h]
    rfl
  · have hs : (List.range' 0 a.length).map Int.ofNat = datT (soonL a) a.length 1 := by
      have e : a.length = (a.length - 1) + 1 := by omega
      simp only [datT, sortedT, insT, List.length_nil, scanR, List.take_nil, List.drop_nil, List.nil_append]
      conv => lhs; rw [e, List.range'_succ]
      simp
    have hh := iter_go (step := G.slices_insertionSortCmpFunc_int64_3_i_urgent_1.s0 0 (a.length : Int) a) (n := a.length) (A := Unit) (g := fun _ => sortedT (soonL a) a.length) (fun i _ => (datT (soonL a) a.length i, (i : Int))) (fun i _ => True) (fun _ => False) ?_ ?_ (a.length - 1) 1 () (by omega) trivial
    · rcases hh with ⟨_, _, h⟩ | ⟨r, hr, _⟩
      · rw [hs, h]
        rfl
      · exact hr.elim
    · rintro i _ hi _
      refine .inl ⟨(), ?_, trivial⟩
      have h3 : decide ((i : Int) < ((a.length : Nat) : Int)) = true := decide_eq_true (by omega)
      have hw : IntKind.wrap .i64 ((i : Int) + 1) = ((i + 1 : Nat) : Int) := by rw [wrap64 (by omega) (by omega)]; omega
      simp only [G.slices_insertionSortCmpFunc_int64_3_i_urgent_1.s0, h3, cond_true, s1_insertion a ha i hi, jn, hw, Option.bind_some, Sum.elim_inl]
    · rintro _ _
      have h3 : decide (((a.length : Nat) : Int) < ((a.length : Nat) : Int)) = false := by simp
      simp only [G.slices_insertionSortCmpFunc_int64_3_i_urgent_1.s0, h3, cond_false, hend]
theorem p_sortStable (a : List TLoss) (ha : tameL a) : G.slices_SortStableFunc_int64_int64_1_i_urgent_1 ((List.range' 0 a.length).map Int.ofNat) a = some (sortedT (soonL a) a.length) := by
  have hn := ha.1
  have h20 : decide ((20 : Int) ≤ (a.length : Int)) = false := decide_eq_false (by omega)
  have h21 : decide ((20 : Int) < (a.length : Int)) = false := decide_eq_false (by omega)
  have h1 : iter (G.slices_stableCmpFunc_int64_2_i_urgent_1.s0 (a.length : Int) a) ((List.range' 0 a.length).map Int.ofNat, (0 : Int), (20 : Int)) = some (.inl ((List.range' 0 a.length).map Int.ofNat, (0 : Int))) := iter_inr (by
    simp only [G.slices_stableCmpFunc_int64_2_i_urgent_1.s0, h20, cond_false])
  have h2 : iter (G.slices_stableCmpFunc_int64_2_i_urgent_1.s1 (a.length : Int)) (20 : Int) = some (.inl ()) := iter_inr (by
    simp only [G.slices_stableCmpFunc_int64_2_i_urgent_1.s1, h21, cond_false])
  simp only [G.slices_SortStableFunc_int64_int64_1_i_urgent_1, G.slices_stableCmpFunc_int64_2_i_urgent_1, List.length_map, List.length_range', h1, jn, Option.bind_some, Sum.elim_inl, p_insertion a ha, sortedT_length, if_true, h2]
theorem p_urgent (a : List TLoss) (ha : tameL a) : G.i_urgent a = some (sortedT (soonL a) a.length) := by
  have hn := ha.1
  unfold G.i_urgent
  have hh := iter_go (step := G.i_urgent.s0 a) (n := a.length) (A := Unit) (g := fun _ => (List.range' 0 a.length).map Int.ofNat) (fun i _ => ((List.range' 0 i).map Int.ofNat, (i : Int))) (fun i _ => True) (fun _ => False) ?_ ?_ a.length 0 () (by omega) trivial
  · rcases hh with ⟨_, _, h⟩ | ⟨r, hr, _⟩
    · have h : iter (G.i_urgent.s0 a) ([], 0) = _ := h
      rw [h]
      simp only [jn, Option.bind_some, Sum.elim_inl, p_sortStable a ha, sortedT_length, List.length_map, List.length_range', if_true]
    · exact hr.elim
  · rintro i _ hi _
    refine .inl ⟨(), ?_, trivial⟩
    have h3 : decide ((i : Int) < ((a.length : Nat) : Int)) = true := decide_eq_true (by omega)
    have hw : IntKind.wrap .i64 ((i : Int) + 1) = ((i + 1 : Nat) : Int) := by rw [wrap64 (by omega) (by omega)]; omega
    simp only [G.i_urgent.s0, h3, cond_true, List.length_map, List.length_range', hw, idx_succ]
    rw [if_pos ⟨by omega, by omega⟩]
  · rintro _ _
    have h3 : decide (((a.length : Nat) : Int) < ((a.length : Nat) : Int)) = false := by simp
    simp only [G.i_urgent.s0, h3, cond_false]
end Go.Proofs.Ytnhgffhnfegiiaa.Fw
namespace Go.Proofs.Ytnhgffhnfegiiaa.Fw
open Go.RowKit
set_option linter.unusedVariables false
set_option linter.unusedSimpArgs false
theorem losses_in {rows : List (List CV)} (h : ∀ r ∈ rows, Okl [.str, .str, .int .i64, .int .i64, .int .i64, .int .i64, .int .i64, .int .i64] r) : ∃ a : List TLoss, rows = mapR rTLoss a ∧ ∀ x ∈ a, fitLoss x := by
  refine rows_of (f := rTLoss) (rows := rows) (fun r hr => ?_)
  obtain ⟨y0, ys0, rfl, e0, k0⟩ := okcons (h r hr)
  obtain ⟨y1, ys1, rfl, e1, k1⟩ := okcons k0
  obtain ⟨y2, ys2, rfl, e2, k2⟩ := okcons k1
  obtain ⟨y3, ys3, rfl, e3, k3⟩ := okcons k2
  obtain ⟨y4, ys4, rfl, e4, k4⟩ := okcons k3
  obtain ⟨y5, ys5, rfl, e5, k5⟩ := okcons k4
  obtain ⟨y6, ys6, rfl, e6, k6⟩ := okcons k5
  obtain ⟨y7, ys7, rfl, e7, k7⟩ := okcons k6
  obtain rfl := oknil k7
  obtain ⟨v0, rfl, b0⟩ := okstr e0
  obtain ⟨v1, rfl, b1⟩ := okstr e1
  obtain ⟨v2, rfl, b2, c2⟩ := okint e2
  obtain ⟨v3, rfl, b3, c3⟩ := okint e3
  obtain ⟨v4, rfl, b4, c4⟩ := okint e4
  obtain ⟨v5, rfl, b5, c5⟩ := okint e5
  obtain ⟨v6, rfl, b6, c6⟩ := okint e6
  obtain ⟨v7, rfl, b7, c7⟩ := okint e7
  exact ⟨⟨v0, ⟨v1, v2, v3⟩, v4, v5, v6, v7⟩, rfl, ⟨b0, b1⟩, b2, c2⟩
end Go.Proofs.Ytnhgffhnfegiiaa.Fw
namespace Go.Proofs.Ytnhgffhnfegiiaa.Fw
open Go.RowKit
set_option linter.unusedVariables false
set_option linter.unusedSimpArgs false
theorem insT_perm (lt : Int → Int → Bool) (x : Int) (p : List Int) : (insT lt x p).Perm (x :: p) := by
  unfold insT
  refine List.perm_middle.trans ?_
  rw [List.take_append_drop]
theorem sortedT_nodup (lt : Int → Int → Bool) (n : Nat) : (sortedT lt n).Nodup := by
  induction n with
  | zero => exact List.nodup_nil
  | succ n ih =>
    refine (insT_perm lt (n : Int) (sortedT lt n)).nodup_iff.2 (List.nodup_cons.2 ⟨fun h => ?_, ih⟩)
    have := sortedT_mem lt n _ h
    omega
/-- Two loops side by side. -/
theorem iter_two {A S1 S2 V1 V2 R1 R2 : Type} {f : S1 → Option (S1 ⊕ (V1 ⊕ R1))} {g : S2 → Option (S2 ⊕ (V2 ⊕ R2))} {n : Nat} (st1 : Nat → A → S1) (st2 : Nat → A → S2) (o1 : A → V1) (o2 : A → V2) (I : Nat → A → Prop)
    (hs : ∀ (i : Nat) a, i < n → I i a → ∃ a', f (st1 i a) = some (.inl (st1 (i + 1) a')) ∧ g (st2 i a) = some (.inl (st2 (i + 1) a')) ∧ I (i + 1) a')
    (he : ∀ a, f (st1 n a) = some (.inr (.inl (o1 a))) ∧ g (st2 n a) = some (.inr (.inl (o2 a)))) :
    ∀ (m k : Nat) (a : A), k + m = n → I k a → ∃ a', I n a' ∧ iter f (st1 k a) = some (.inl (o1 a')) ∧ iter g (st2 k a) = some (.inl (o2 a')) := by
  intro m
  induction m with
  | zero =>
    intro k a hk hI
    have : k = n := by omega
    subst this
    exact ⟨a, hI, iter_inr (he a).1, iter_inr (he a).2⟩
  | succ m ih =>
    intro k a hk hI
    obtain ⟨a', h1, h2, h3⟩ := hs k a (by omega) hI
    obtain ⟨r, h4, h5, h6⟩ := ih (k + 1) a' (by omega) h3
    exact ⟨r, h4, (iter_inl h1).trans h5, (iter_inl h2).trans h6⟩
/-- The rising list and the sorted one. -/
theorem sortI_eq {l o : List Int} (hn : l.Nodup) (ho : o.Pairwise (· < ·)) (h : ∀ z, z ∈ o ↔ z ∈ l) : sortI l = o := by
  refine rising_eq _ _ ?_ ho fun z => by rw [mem_sortI, h]
  have h1 : (sortI l).Nodup := (List.mergeSort_perm l _).nodup_iff.2 hn
  have h2 := sortI_le l
  exact (h2.and h1).imp fun ⟨p, q⟩ => by omega
theorem greedy_loops (a : List TLoss) (q : List Int) (money mins : Int) (hq : q.Nodup) (hl : q.length ≤ 16) (hm : ∀ j, j < q.length → 0 ≤ q.getD j default ∧ q.getD j default < (a.length : Int)) :
    ∃ os oi, iter (G.s_GreedyRepairs.s0 a q) (money, mins, ([] : List Int), (0 : Int)) = some (.inl os) ∧ iter (G.i_GreedyRepairs.s0 a q) (money, mins, ([] : List Int), (0 : Int)) = some (.inl oi) ∧ sortI oi = os ∧ os.length ≤ 16 ∧ oi.length ≤ 16 ∧ (∀ y ∈ os, 0 ≤ y ∧ y < (a.length : Int)) := by
  have hh := iter_two (f := G.s_GreedyRepairs.s0 a q) (g := G.i_GreedyRepairs.s0 a q) (n := q.length) (A := Int × Int × List Int × List Int) (fun i x => (x.1, x.2.1, x.2.2.1, (i : Int))) (fun i x => (x.1, x.2.1, x.2.2.2, (i : Int))) (fun x => x.2.2.1) (fun x => x.2.2.2)
    (fun i x => x.2.2.1.Pairwise (· < ·) ∧ x.2.2.1.length ≤ i ∧ x.2.2.2.length ≤ i ∧ x.2.2.2.Nodup ∧ (∀ z, z ∈ x.2.2.1 ↔ z ∈ x.2.2.2) ∧ ∀ z ∈ x.2.2.2, ∃ j, j < i ∧ z = q.getD j default) ?_ ?_ q.length 0 (money, mins, [], []) (by omega) ⟨.nil, Nat.le_refl _, Nat.le_refl _, List.nodup_nil, fun z => Iff.rfl, fun z hz => by cases hz⟩
  · obtain ⟨⟨m1, m2, os, oi⟩, ⟨h1, h2, h3, h4, h5, h6⟩, h7, h8⟩ := hh
    simp only at h1 h2 h3 h4 h5 h6
    refine ⟨os, oi, h7, h8, sortI_eq h4 h1 h5, by omega, by omega, fun y hy => ?_⟩
    obtain ⟨j, hj, rfl⟩ := h6 y ((h5 y).1 hy)
    exact hm j hj
  · rintro i ⟨m1, m2, os, oi⟩ hi ⟨h1, h2, h3, h4, h5, h6⟩
    simp only at h1 h2 h3 h4 h5 h6
    have hmi := hm i hi
    have hd : decide ((i : Int) < ((q.length : Nat) : Int)) = true := by simp; omega
    have hc : 0 ≤ (i : Int) ∧ (i : Int) < ((q.length : Nat) : Int) := ⟨by omega, by omega⟩
    have hw : IntKind.wrap .i64 ((i : Int) + 1) = ((i + 1 : Nat) : Int) := by rw [wrap64 (by omega) (by omega)]; omega
    have hr : (oi.length + 1) * 8 ≤ 140737488355328 ∧ oi.length + 1 ≤ 9223372036854775807 := ⟨by omega, by omega⟩
    simp only [G.s_GreedyRepairs.s0, G.i_GreedyRepairs.s0, hd, cond_true, if_pos hc, Int.toNat_natCast, if_pos hmi, if_pos hr, hw, p_l00Put os _ (by omega), Option.bind_some]
    cases decide ((a.getD (q.getD i default).toNat default).Cost ≤ m1)
    · exact ⟨(m1, m2, os, oi), rfl, rfl, h1, by simp only; omega, by simp only; omega, h4, h5, fun z hz => by obtain ⟨j, hj, e⟩ := h6 z hz; exact ⟨j, by omega, e⟩⟩
    · cases decide ((a.getD (q.getD i default).toNat default).Minutes ≤ m2)
      · exact ⟨(m1, m2, os, oi), rfl, rfl, h1, by simp only; omega, by simp only; omega, h4, h5, fun z hz => by obtain ⟨j, hj, e⟩ := h6 z hz; exact ⟨j, by omega, e⟩⟩
      · have hins := ins_len (q.getD i default) os
        have hnew : q.getD i default ∉ oi := fun hz => by
          obtain ⟨j, hj, e⟩ := h6 _ hz
          rw [getD_eq (by omega), getD_eq (by omega)] at e
          have := (List.nodup_iff_pairwise_ne.1 hq)
          exact List.pairwise_iff_getElem.1 this j i (by omega) (by omega) hj e.symm
        refine ⟨(IntKind.wrap .i64 (m1 - (a.getD (q.getD i default).toNat default).Cost), IntKind.wrap .i64 (m2 - (a.getD (q.getD i default).toNat default).Minutes), ins (q.getD i default) os, oi ++ [q.getD i default]), rfl, rfl, ins_lt _ _ h1, by simp only; omega, by simp only [List.length_append, List.length_cons, List.length_nil]; omega, ?_, fun z => ?_, fun z hz => ?_⟩
        · exact List.nodup_append.2 ⟨h4, by simp, fun x hx y hy => by
            rw [List.mem_singleton] at hy
            subst hy
            rintro rfl
            exact hnew hx⟩
        · simp only [mem_ins, List.mem_append, List.mem_singleton]
          rw [h5]
          exact Or.comm
        · rcases List.mem_append.1 hz with hz | hz
          · obtain ⟨j, hj, e⟩ := h6 z hz; exact ⟨j, by omega, e⟩
          · rw [List.mem_singleton] at hz
            exact ⟨i, by omega, hz⟩
  · rintro ⟨m1, m2, os, oi⟩
    have hz : decide (((q.length : Nat) : Int) < ((q.length : Nat) : Int)) = false := by simp
    simp only [G.s_GreedyRepairs.s0, G.i_GreedyRepairs.s0, hz, cond_false]
    exact ⟨trivial, trivial⟩
theorem law_GreedyRepairs (a : List TLoss) (money mins : Int) (ha : ∀ x ∈ a, fitLoss x) (hn : a.length ≤ 9223372036854775807) : G.l_FnExactGreedyRepairs a money mins = some true := by
  obtain ⟨q, hq, hq2⟩ := p_szLossS a (fun x hx => (ha x hx).1) hn
  by_cases c : q < 0
  · unfold G.l_FnExactGreedyRepairs
    rw [hq, Option.bind_some]
    rw [decide_eq_true c]; rfl
  · have hl : a.length ≤ 1048576 := hq2 (by omega)
    have ht := p_toLossS a hl
    have he := p_eqLossS a a (by omega)
    obtain ⟨o, ho1, ho2⟩ := p_markLossS a (by omega)
    obtain ⟨b, hb1, hb2, hb3⟩ := p_losses a ha (by omega)
    have hk : decide (1 + 8 * (a.length : Int) < 0) = false := decide_eq_false (by omega)
    have e0 := p_eqInt64S [] [] (by simp)
    have m0 := p_markInt64S_0n
    have g0 := p_heldInt64S [] (by simp) (by simp)
    have w1 : inR 1 1 20000 = true := by decide
    have bad : ∀ k : Int, G.s_GreedyRepairs a money mins = some (none, k) → G.i_GreedyRepairs a money mins = some (none, k) → G.l_FnExactGreedyRepairs a money mins = some true := fun k hs hi => by
      unfold G.l_FnExactGreedyRepairs
      rw [hq, Option.bind_some, decide_eq_false c]
      simp only [ht, hs, hi, Option.bind_some, onO, cond_false, e0, he, ho2, ho1, decide_true, Bool.not_true, cond_true, if_true, hk, m0, g0]
      rfl
    cases b with
    | false => exact bad 1 (by simp only [G.s_GreedyRepairs, hb1, Option.bind_some, cond_false]) (by simp only [G.i_GreedyRepairs, G.i_repairsCode, hb2, Option.bind_some, cond_false]; rfl)
    | true =>
      cases hp : inR money 0 16000000 with
      | false => exact bad 2 (by simp only [G.s_GreedyRepairs, G.s_l25Limits, hb1, Option.bind_some, cond_true, p_l00In, hp, cond_false]) (by simp only [G.i_GreedyRepairs, G.i_repairsCode, hb2, Option.bind_some, cond_true, p_within, w1, hp, Bool.not_false]; rfl)
      | true =>
        cases hr : inR mins 0 160000 with
        | false => exact bad 2 (by simp only [G.s_GreedyRepairs, G.s_l25Limits, hb1, Option.bind_some, cond_true, p_l00In, hp, hr, cond_false]) (by simp only [G.i_GreedyRepairs, G.i_repairsCode, hb2, Option.bind_some, cond_true, p_within, w1, hp, hr, Bool.not_false, Bool.not_true, cond_false]; rfl)
        | true =>
          clear bad
          have h16 := (hb3 rfl).1
          have hS := p_l25Sorted a (by omega)
          have hI := p_urgent a (hb3 rfl)
          have hL := sortedT_length (soonL a) a.length
          have hN := sortedT_nodup (soonL a) a.length
          have hM : ∀ j, j < (sortedT (soonL a) a.length).length → 0 ≤ (sortedT (soonL a) a.length).getD j default ∧ (sortedT (soonL a) a.length).getD j default < (a.length : Int) := fun j hj => sortedT_get (soonL a) a.length (by omega)
          generalize sortedT (soonL a) a.length = L at *
          obtain ⟨os, oi, l1, l2, l3, l4, l5, l6⟩ := greedy_loops a L money mins hN (by omega) hM
          have hs : G.s_GreedyRepairs a money mins = some (some os, 0) := by simp only [G.s_GreedyRepairs, G.s_l25Limits, hb1, Option.bind_some, cond_true, p_l00In, hp, hr, hS, l1, jn, Sum.elim_inl]
          have hi : G.i_GreedyRepairs a money mins = some (some os, 0) := by
            simp only [G.i_GreedyRepairs, G.i_repairsCode, hb2, Option.bind_some, cond_true, p_within, w1, hp, hr, Bool.not_true, cond_false, decide_true, hI, l2, jn, Sum.elim_inl, G.slices_Sort_int64_int64]
            rw [if_pos (show oi.length < 4611686018427387904 by omega)]
            have hlen : os.length = oi.length := by rw [← l3, sortI_len]
            simp only [Option.bind_some, l3, if_pos hlen]
          have e1 := p_eqInt64S os os (by omega)
          obtain ⟨p, hp1, hp2, hp3⟩ := p_markInt64S os (by omega)
          have g1 := p_heldInt64S p (by omega) (by rw [hp1]; exact hp2)
          have hh : decide (1 + (os.length : Int) < 0) = false := decide_eq_false (by omega)
          unfold G.l_FnExactGreedyRepairs
          rw [hq, Option.bind_some, decide_eq_false c]
          simp only [ht, hs, hi, Option.bind_some, onO, cond_false, e1, he, ho2, ho1, decide_true, Bool.not_true, cond_true, if_true, hk, hp1, hp3, g1, hh]
theorem ret_FnExactGreedyRepairs (nl : Bool) (rows : List (List CV)) (hl : rows.length ≤ 9223372036854775807) (_ : nl = true → rows = []) (hr : ∀ r ∈ rows, Okl [.str, .str, .int .i64, .int .i64, .int .i64, .int .i64, .int .i64, .int .i64] r) (m : Int) (_ : IntKind.min .i64 ≤ m) (_ : m ≤ IntKind.max .i64) (t : Int) (_ : IntKind.min .i64 ≤ t) (_ : t ≤ IntKind.max .i64) :
    Ret Try.prog 9 none [.c (.sl nl false 8 rows), .c (.v (.int .i64 m)), .c (.v (.int .i64 t))] [] (.c (.v (.bool true))) := by
  obtain ⟨a, rfl, ha⟩ := losses_in hr
  exact Ret.args (by simp [AV.lo]) (AWkL.cons (AWk.c CWk.sl) (AWkL.cons (AWk.refl _) (AWkL.cons (AWk.refl _) AWkL.nil))) (ret_l_FnExactGreedyRepairs a m t (law_GreedyRepairs a m t ha (by simpa [mapR] using hl)))
end Go.Proofs.Ytnhgffhnfegiiaa.Fw
