/- What the functions without memory come to. No condition. -/
import Derived.Test.YtnhgffhnfegiiaaGGmb
import Derived.Test.YtnhgffhnfegiiaaFwGf
import Derived.Test.YtnhgffhnfegiiaaFwZb
namespace Go.Proofs.Ytnhgffhnfegiiaa.Fw
open Go.RowKit
set_option linter.unusedVariables false
set_option linter.unusedSimpArgs false
theorem all_getD {a b : List Int} (hl : a.length = b.length) : ((List.range' 0 a.length).all fun i => decide (a.getD i default = b.getD i default)) = decide (a = b) := by
  rw [Bool.eq_iff_iff, List.all_eq_true, decide_eq_true_eq]
  constructor
  · intro h
    refine List.ext_getElem hl fun i h1 h2 => ?_
    have := h i (by simp [List.mem_range'_1]; exact h1)
    simpa [List.getD_eq_getElem?_getD, h1, h2] using this
  · rintro rfl i _
    simp
end Go.Proofs.Ytnhgffhnfegiiaa.Fw
namespace Go.Proofs.Ytnhgffhnfegiiaa.Fw
open Go.RowKit
set_option linter.unusedVariables false
set_option linter.unusedSimpArgs false
def inR (n lo hi : Int) : Bool := decide (lo ≤ n) && decide (n ≤ hi)
theorem p_within (n lo hi : Int) : G.i_within n lo hi = some (inR n lo hi) := by
  unfold G.i_within inR; cases decide (lo ≤ n) <;> rfl
theorem all_getDL {α : Type} [Inhabited α] [DecidableEq α] {a b : List α} (hl : a.length = b.length) : ((List.range' 0 a.length).all fun i => decide (a.getD i default = b.getD i default)) = decide (a = b) := by
  rw [Bool.eq_iff_iff, List.all_eq_true, decide_eq_true_eq]
  constructor
  · intro h
    refine List.ext_getElem hl fun i h1 h2 => ?_
    have := h i (by simp [List.mem_range'_1]; exact h1)
    simpa [List.getD_eq_getElem?_getD, h1, h2] using this
  · rintro rfl i _
    simp
theorem makeOk_of {n : Nat} {b : Nat} (h : n ≤ 1048576) (hb : b ≤ 1000) : makeOk (n : Int) (n : Int) b := by
  unfold makeOk
  have h1 : n * b ≤ 1048576 * 1000 := Nat.mul_le_mul h hb
  have h2 : (b : Int) * (n : Int) = ((n * b : Nat) : Int) := by rw [Int.natCast_mul, Int.mul_comm]
  refine ⟨?_, ?_, ?_, ?_⟩ <;> omega
end Go.Proofs.Ytnhgffhnfegiiaa.Fw
namespace Go.Proofs.Ytnhgffhnfegiiaa.Fw
open Go.RowKit
set_option linter.unusedVariables false
set_option linter.unusedSimpArgs false
def sumN (n : Nat) (g : Nat → Int) : Int := match n with
  | 0 => 0
  | n + 1 => sumN n g + g n
theorem sumN_ext {n : Nat} {g h : Nat → Int} (e : ∀ i, i < n → g i = h i) : sumN n g = sumN n h := by
  induction n with
  | zero => rfl
  | succ n ih => simp only [sumN]; rw [ih fun i hi => e i (by omega), e n (by omega)]
theorem sumN_le {n : Nat} {g h : Nat → Int} (e : ∀ i, i < n → g i ≤ h i) : sumN n g ≤ sumN n h := by
  induction n with
  | zero => exact Int.le_refl _
  | succ n ih => have h1 := ih fun i hi => e i (by omega); have h2 := e n (by omega); simp only [sumN]; omega
theorem sumN_const (n : Nat) (c : Int) : sumN n (fun _ => c) = n * c := by
  induction n with
  | zero => simp [sumN]
  | succ n ih => simp only [sumN, ih]; rw [show ((n + 1 : Nat) : Int) = n + 1 from by omega, Int.add_mul]; omega
/-- One value changes. -/
theorem sumN_upd {n : Nat} {g h : Nat → Int} {y : Nat} (hy : y < n) (e : ∀ i, i < n → i ≠ y → h i = g i) : sumN n h = sumN n g + (h y - g y) := by
  induction n with
  | zero => omega
  | succ n ih =>
    simp only [sumN]
    by_cases c : y = n
    · subst c
      rw [sumN_ext (n := y) (g := h) (h := g) fun i hi => e i (by omega) (by omega)]
      omega
    · have := ih (by omega) fun i hi hn => e i (by omega) hn
      rw [this, e n (by omega) (fun h => c h.symm)]
      omega
theorem sumN_full {n : Nat} {g : Nat → Int} (h1 : ∀ i, i < n → g i ≤ 1) (h : sumN n g = n) : ∀ i, i < n → g i = 1 := by
  induction n with
  | zero => intro i hi; omega
  | succ n ih =>
    have hb : sumN n g ≤ n := by
      have := sumN_le (n := n) (g := g) (h := fun _ => 1) fun i hi => h1 i (by omega)
      rw [sumN_const] at this
      omega
    have hn := h1 n (by omega)
    simp only [sumN] at h
    intro i hi
    by_cases c : i = n
    · subst c; omega
    · exact ih (fun j hj => h1 j (by omega)) (by omega) i (by omega)
/-- A list that tells each place below its length once. -/
structure isPerm (o : List Int) (n : Nat) : Prop where
  len : o.length = n
  range : ∀ i, i < n → 0 ≤ o.getD i default ∧ o.getD i default < (n : Int)
  inj : ∀ i j, i < j → j < n → o.getD i default ≠ o.getD j default
theorem isPerm.sum_pre {o : List Int} {n : Nat} (h : isPerm o n) (f : Nat → Int) : ∀ i, i ≤ n → sumN n (fun x => if ∃ j, j < i ∧ o.getD j default = (x : Int) then f x else 0) = sumN i fun j => f (o.getD j default).toNat := by
  intro i
  induction i with
  | zero =>
    intro _
    rw [sumN_ext (h := fun _ => 0) fun x _ => if_neg (by rintro ⟨j, hj, _⟩; omega), sumN_const]
    simp [sumN]
  | succ i ih =>
    intro hi
    have h1 := ih (by omega)
    have hr := h.range i (by omega)
    have h2 := sumN_upd (n := n) (y := (o.getD i default).toNat) (g := fun x => if ∃ j, j < i ∧ o.getD j default = (x : Int) then f x else 0) (h := fun x => if ∃ j, j < i + 1 ∧ o.getD j default = (x : Int) then f x else 0) (by omega) (fun x hx hne => by
      have : (∃ j, j < i + 1 ∧ o.getD j default = (x : Int)) ↔ ∃ j, j < i ∧ o.getD j default = (x : Int) := by
        constructor
        · rintro ⟨j, hj, e⟩
          by_cases c : j = i
          · subst c; omega
          · exact ⟨j, by omega, e⟩
        · rintro ⟨j, hj, e⟩; exact ⟨j, by omega, e⟩
      simp only [this])
    have h3 : ((o.getD i default).toNat : Int) = o.getD i default := by omega
    have h4 : ¬ ∃ j, j < i ∧ o.getD j default = ((o.getD i default).toNat : Int) := by
      rintro ⟨j, hj, e⟩
      exact h.inj j i hj (by omega) (by omega)
    have h5 : ∃ j, j < i + 1 ∧ o.getD j default = ((o.getD i default).toNat : Int) := ⟨i, by omega, by omega⟩
    rw [h2, h1]
    simp only [if_neg h4, if_pos h5, sumN]
    omega
theorem isPerm.onto {o : List Int} {n : Nat} (h : isPerm o n) {x : Nat} (hx : x < n) : ∃ j, j < n ∧ o.getD j default = (x : Int) := by
  have h1 := h.sum_pre (fun _ => 1) n (Nat.le_refl _)
  rw [sumN_const] at h1
  have h2 := sumN_full (g := fun x : Nat => if ∃ j, j < n ∧ o.getD j default = (x : Int) then (1 : Int) else 0) (fun i _ => by show (if _ then _ else _ : Int) ≤ 1; split <;> omega) (by rw [h1]; omega) x hx
  by_cases c : ∃ j, j < n ∧ o.getD j default = (x : Int)
  · exact c
  · simp only [if_neg c] at h2
    omega
theorem isPerm.sum {o : List Int} {n : Nat} (h : isPerm o n) (f : Nat → Int) : sumN n (fun j => f (o.getD j default).toNat) = sumN n f := by
  rw [← h.sum_pre f n (Nat.le_refl _)]
  exact (sumN_ext fun x hx => (if_pos (h.onto hx)).symm).symm
end Go.Proofs.Ytnhgffhnfegiiaa.Fw
namespace Go.Proofs.Ytnhgffhnfegiiaa.Fw
open Go.RowKit
set_option linter.unusedVariables false
set_option linter.unusedSimpArgs false
theorem p_isOrder (o : List Int) (n : Nat) (hn : n ≤ 1000000) : G.i_isOrder o (n : Int) = some false ∨ (G.i_isOrder o (n : Int) = some true ∧ isPerm o n) := by
  unfold G.i_isOrder
  by_cases hl : o.length = n
  · rw [decide_eq_true (by omega)]
    simp only [cond_true]
    rw [if_pos (makeOk_of (by omega) (by omega))]
    have hh := iter_go (step := G.i_isOrder.s0 o (n : Int)) (n := n) (A := List Bool) (g := fun _ => ()) (fun i x => (x, (i : Int))) (fun i x => x.length = n ∧ (∀ j, j < i → 0 ≤ o.getD j default ∧ o.getD j default < (n : Int)) ∧ (∀ j k, j < k → k < i → o.getD j default ≠ o.getD k default) ∧ (∀ j, j < i → x.getD (o.getD j default).toNat default = true)) (fun r => r = false) ?_ ?_ n 0 (List.replicate n false) (by omega) ⟨by simp, by intro j hj; omega, by intro j k hj hk; omega, by intro j hj; omega⟩
    · have e0 : List.replicate (n : Int).toNat false = List.replicate n false := by rw [Int.toNat_natCast]
      rw [e0]
      rcases hh with ⟨x, ⟨_, h1, h2, _⟩, h⟩ | ⟨r, rfl, h⟩
      · have h : iter (G.i_isOrder.s0 o (n : Int)) (List.replicate n false, 0) = _ := h
        rw [h]
        exact .inr ⟨rfl, hl, h1, h2⟩
      · have h : iter (G.i_isOrder.s0 o (n : Int)) (List.replicate n false, 0) = _ := h
        rw [h]
        exact .inl rfl
    · rintro i x hi ⟨h1, h2, h3, h4⟩
      have hd : decide ((i : Int) < ((o.length : Nat) : Int)) = true := decide_eq_true (by omega)
      have hw : IntKind.wrap .i64 ((i : Int) + 1) = ((i + 1 : Nat) : Int) := by rw [wrap64 (by omega) (by omega)]; omega
      have hw2 : IntKind.wrap .i64 ((n : Int) - 1) = (n : Int) - 1 := wrap64 (by omega) (by omega)
      simp only [G.i_isOrder.s0, hd, cond_true, hw, hw2, Int.toNat_natCast, p_within, Option.bind_some]
      rw [if_pos ⟨by omega, by omega⟩]
      by_cases c : 0 ≤ o.getD i default ∧ o.getD i default < (n : Int)
      · have e1 : inR (o.getD i default) 0 ((n : Int) - 1) = true := by simp only [inR, Bool.and_eq_true, decide_eq_true_eq]; omega
        rw [e1]
        simp only [cond_true, Option.bind_some]
        rw [if_pos (by rw [h1]; exact c)]
        simp only [Option.bind_some]
        cases hm : x.getD (o.getD i default).toNat default with
        | true => exact .inr ⟨false, rfl, rfl⟩
        | false =>
          refine .inl ⟨x.set (o.getD i default).toNat true, by rw [cond_false, if_pos (by rw [h1]; exact c)], by simpa using h1, ?_, ?_, ?_⟩
          · intro j hj
            by_cases e : j = i
            · subst e; exact c
            · exact h2 j (by omega)
          · intro j k hj hk
            by_cases e : k = i
            · subst e
              intro he
              have := h4 j hj
              rw [he, hm] at this
              cases this
            · exact h3 j k hj (by omega)
          · intro j hj
            by_cases e : (o.getD j default).toNat = (o.getD i default).toNat
            · rw [e]; exact getD_set_self _ _ _ _ (by omega)
            · have hji : j ≠ i := fun h => e (by rw [h])
              rw [List.getD_eq_getElem?_getD, List.getElem?_set, if_neg (fun h => e h.symm), ← List.getD_eq_getElem?_getD]
              exact h4 j (by omega)
      · have e1 : inR (o.getD i default) 0 ((n : Int) - 1) = false := by
          rw [Bool.eq_false_iff]
          simp only [inR, ne_eq, Bool.and_eq_true, decide_eq_true_eq]
          omega
        rw [e1]
        exact .inr ⟨false, rfl, rfl⟩
    · rintro x _
      have hd : decide ((n : Int) < ((o.length : Nat) : Int)) = false := decide_eq_false (by omega)
      simp only [G.i_isOrder.s0, hd, cond_false]
  · rw [decide_eq_false (by omega)]
    exact .inl rfl
end Go.Proofs.Ytnhgffhnfegiiaa.Fw
namespace Go.Proofs.Ytnhgffhnfegiiaa.Fw
open Go.RowKit
set_option linter.unusedVariables false
set_option linter.unusedSimpArgs false
end Go.Proofs.Ytnhgffhnfegiiaa.Fw
namespace Go.Proofs.Ytnhgffhnfegiiaa.Fw
open Go.RowKit
set_option linter.unusedVariables false
set_option linter.unusedSimpArgs false
def chOk (c : Int) : Bool := inR c 97 122 || inR c 48 57
def nameOk (s : ByteArray) : Bool := !(decide (s.size = 0) || decide ((10 : Int) < ((s.size : Nat) : Int))) && (inR (byteAt s 0) 97 122 && (List.range' 0 s.size).all fun i => chOk (byteAt s i))
theorem lt_not (a b : Int) : decide (a < b) = !decide (b ≤ a) := by
  by_cases h : a < b
  · simp [h, Int.not_le.2 h]
  · simp [h, Int.not_lt.1 h]
theorem p_IsName (s : ByteArray) (hs : s.size ≤ 9223372036854775807) : G.i_IsName s = some (nameOk s) := by
  have hit : iter (G.i_IsName.s0 s) 0 = some (if (List.range' 0 s.size).all (fun i => chOk (byteAt s i)) then .inl () else .inr false) := by
    refine iter_scan (step := G.i_IsName.s0 s) (n := s.size) (p := fun i => chOk (byteAt s i)) (v := ()) (r := false) ?_ ?_ s.size 0 (by omega)
    · intro i hi
      have h1 : decide ((i : Int) < ((s.size : Nat) : Int)) = true := by simp; omega
      have hc : 0 ≤ (i : Int) ∧ (i : Int) < ((s.size : Nat) : Int) := ⟨by omega, by omega⟩
      simp only [G.i_IsName.s0, h1, cond_true, if_pos hc, Int.toNat_natCast, Option.bind_some, chOk, inR]
      rw [wrap64 (by omega) (by omega), lt_not (byteAt s i) 97, lt_not 122 (byteAt s i), lt_not (byteAt s i) 48, lt_not 57 (byteAt s i)]
      by_cases h5 : 97 ≤ byteAt s i <;> by_cases h6 : byteAt s i ≤ 122 <;> by_cases h7 : 48 ≤ byteAt s i <;> by_cases h8 : byteAt s i ≤ 57 <;> simp [h5, h6, h7, h8]
    · have h1 : decide (((s.size : Nat) : Int) < ((s.size : Nat) : Int)) = false := by simp
      simp only [G.i_IsName.s0, h1, cond_false]
  unfold G.i_IsName nameOk
  rw [hit]
  by_cases c0 : s.size = 0
  · simp [c0]
  · by_cases c1 : (10 : Int) < ((s.size : Nat) : Int)
    · have c2 : ¬ ((s.size : Nat) : Int) < 1 := by omega
      simp [c0, c1, c2]
    · have hc : 0 ≤ (0 : Int) ∧ (0 : Int) < ((s.size : Nat) : Int) := ⟨by omega, by omega⟩
      have c2 : ¬ ((s.size : Nat) : Int) < 1 := by omega
      simp only [c0, c1, c2, decide_false, cond_false, Option.bind_some, if_pos hc, Bool.or_self, Bool.not_false, Bool.true_and, inR, lt_not (byteAt s 0) 97, lt_not 122 (byteAt s 0)]
      cases decide (97 ≤ byteAt s 0) <;> cases decide (byteAt s 0 ≤ 122) <;> cases (List.range' 0 s.size).all fun i => chOk (byteAt s i) <;> rfl
end Go.Proofs.Ytnhgffhnfegiiaa.Fw
namespace Go.Proofs.Ytnhgffhnfegiiaa.Fw
open Go.RowKit
set_option linter.unusedVariables false
set_option linter.unusedSimpArgs false
def smallBond (x : TBond) : Prop := x.Name.size ≤ 9223372036854775807
end Go.Proofs.Ytnhgffhnfegiiaa.Fw
namespace Go.Proofs.Ytnhgffhnfegiiaa.Fw
open Go.RowKit
set_option linter.unusedVariables false
set_option linter.unusedSimpArgs false
def fitBond (x : TBond) : Prop := x.Name.size ≤ 9223372036854775807
def bondR (x : TBond) : Prop := 1 ≤ x.Spread ∧ x.Spread ≤ 120 ∧ x.Spread ≤ x.Open ∧ x.Open ≤ 240 ∧ 1 ≤ x.Press ∧ x.Press ≤ 1440
def bondB (x : TBond) : Bool := nameOk x.Name && inR x.Spread 1 120 && inR x.Open x.Spread 240 && inR x.Press 1 1440
theorem bondB_R {x : TBond} (h : bondB x = true) : bondR x := by
  simp only [bondB, Bool.and_eq_true, inR, decide_eq_true_eq] at h
  unfold bondR
  omega
theorem p_ValidBond (x : TBond) (hx : fitBond x) : G.i_ValidBond x.Name x.Spread x.Open x.Press = some (bondB x) := by
  have h1 : x.Name.size ≤ 9223372036854775807 := hx
  simp only [G.i_ValidBond, p_IsName x.Name h1, p_within, Option.bind_some, bondB]
  cases nameOk x.Name <;> cases inR x.Spread 1 120 <;> cases inR x.Open x.Spread 240 <;> cases inR x.Press 1 1440 <;> rfl
theorem fit_getB {a : List TBond} (ha : ∀ x ∈ a, fitBond x) {i : Nat} (hi : i < a.length) : fitBond (a.getD i default) := by
  rw [List.getD_eq_getElem?_getD, List.getElem?_eq_getElem hi, Option.getD_some]
  exact ha _ (List.getElem_mem hi)
def bondsP (a : List TBond) (i : Nat) : Bool := bondB (a.getD i default) && (decide (i = 0) || strLt (a.getD (i - 1) default).Name (a.getD i default).Name)
def bondsB (a : List TBond) : Bool := (List.range' 0 a.length).all (bondsP a) && decide ((a.length : Int) ≤ 12)
theorem bondsB_R {a : List TBond} (h : bondsB a = true) : a.length ≤ 12 ∧ ∀ i, i < a.length → bondR (a.getD i default) := by
  simp only [bondsB, Bool.and_eq_true, List.all_eq_true, decide_eq_true_eq] at h
  refine ⟨by omega, fun i hi => ?_⟩
  have := h.1 i (by simp [List.mem_range'_1]; exact hi)
  simp only [bondsP, Bool.and_eq_true] at this
  exact bondB_R this.1
theorem p_ValidBonds (a : List TBond) (ha : ∀ x ∈ a, fitBond x) (hn : a.length ≤ 1000000000) : G.i_ValidBonds a = some (bondsB a) := by
  have h := iter_scan (step := G.i_ValidBonds.s0 a) (n := a.length) (p := bondsP a) (v := ()) (r := false) ?_ ?_ a.length 0 (by omega)
  · rw [show ((0 : Nat) : Int) = 0 from rfl] at h
    unfold G.i_ValidBonds bondsB
    rw [h]
    cases (List.range' 0 a.length).all (bondsP a) <;> rfl
  · intro i hi
    have hd : decide ((i : Int) < ((a.length : Nat) : Int)) = true := decide_eq_true (by omega)
    have hc : 0 ≤ (i : Int) ∧ (i : Int) < ((a.length : Nat) : Int) := ⟨by omega, by omega⟩
    have hw : IntKind.wrap .i64 ((i : Int) + 1) = ((i + 1 : Nat) : Int) := by rw [wrap64 (by omega) (by omega)]; omega
    have hw2 : IntKind.wrap .i64 ((i : Int) - 1) = (i : Int) - 1 := wrap64 (by omega) (by omega)
    simp only [G.i_ValidBonds.s0, hd, cond_true, if_pos hc, Int.toNat_natCast, p_ValidBond _ (fit_getB ha hi), Option.bind_some, hw, hw2, bondsP]
    rcases Bool.eq_false_or_eq_true (bondB (a.getD i default)) with hb | hb
    · by_cases h0 : i = 0
      · subst h0
        simp only [hb]
        rfl
      · have hc2 : 0 ≤ (i : Int) - 1 ∧ (i : Int) - 1 < ((a.length : Nat) : Int) := ⟨by omega, by omega⟩
        have h1 : decide ((0 : Int) < (i : Int)) = true := decide_eq_true (by omega)
        have h2 : ((i : Int) - 1).toNat = i - 1 := by omega
        rcases Bool.eq_false_or_eq_true (strLt (a.getD (i - 1) default).Name (a.getD i default).Name) with e | e <;> simp only [hb, h1, cond_true, if_pos hc2, h2, h0, decide_false, Bool.false_or, e] <;> simp
    · simp only [hb]
      rfl
  · have hz : decide (((a.length : Nat) : Int) < ((a.length : Nat) : Int)) = false := by simp
    simp only [G.i_ValidBonds.s0, hz, cond_false]
def tameB (a : List TBond) : Prop := a.length ≤ 12 ∧ ∀ i, i < a.length → bondR (a.getD i default)
end Go.Proofs.Ytnhgffhnfegiiaa.Fw
namespace Go.Proofs.Ytnhgffhnfegiiaa.Fw
open Go.RowKit
set_option linter.unusedVariables false
set_option linter.unusedSimpArgs false
def bytesOk (c : List Int) : Prop := c.length ≤ 1048576 ∧ ∀ x ∈ c, 0 ≤ x ∧ x ≤ 255
def srcOk (c : List Int) (m : Int) (s : Tl00Src) : Prop := s.code = c ∧ 0 ≤ s.at_ ∧ s.at_ ≤ m
theorem srcOk.mono {c : List Int} {m n : Int} {s : Tl00Src} (h : srcOk c m s) (hn : m ≤ n) : srcOk c n s := ⟨h.1, h.2.1, by have := h.2.2; omega⟩
theorem and255 (x : BitVec 64) : 0 ≤ ((x &&& BitVec.ofInt 64 255).toNat : Int) ∧ ((x &&& BitVec.ofInt 64 255).toNat : Int) ≤ 255 := by
  have h : (x &&& BitVec.ofInt 64 255).toNat ≤ 255 := by
    rw [BitVec.toNat_and]
    exact Nat.le_trans Nat.and_le_right (by decide)
  omega
theorem wrapU64 {x : Int} (h1 : 0 ≤ x) (h2 : x ≤ 9223372036854775807) : IntKind.wrap .u64 x = x := by
  show x % 18446744073709551616 = x
  omega
theorem p_next {c : List Int} (hc : bytesOk c) {m : Int} (hm : m ≤ 1000000000000) {s : Tl00Src} (h : srcOk c m s) : ∃ s' v, G.s_l00Src_next s.code s.at_ s.seed = some (s', v) ∧ srcOk c (m + 1) s' ∧ 0 ≤ v ∧ v ≤ 255 := by
  obtain ⟨h1, h2, h3⟩ := h
  obtain ⟨hc1, hc2⟩ := hc
  unfold G.s_l00Src_next
  rw [h1]
  have hw : IntKind.wrap .i64 (s.at_ + 1) = s.at_ + 1 := wrap64 (by omega) (by omega)
  have hb : ∃ q, (bif (decide (s.at_ < ((c.length : Nat) : Int))) then (if 0 ≤ s.at_ ∧ s.at_ < ((c.length : Nat) : Int) then (some (IntKind.wrap .i64 (c.getD s.at_.toNat default))) else none) else (some (0 : Int))) = some q ∧ 0 ≤ q ∧ q ≤ 255 := by
    by_cases c1 : s.at_ < ((c.length : Nat) : Int)
    · rw [decide_eq_true c1, cond_true, if_pos ⟨h2, c1⟩]
      have hg : c.getD s.at_.toNat default ∈ c := by
        rw [List.getD_eq_getElem?_getD, List.getElem?_eq_getElem (by omega), Option.getD_some]
        exact List.getElem_mem _
      have := hc2 _ hg
      exact ⟨_, rfl, by rw [wrap64 (by omega) (by omega)]; omega⟩
    · rw [decide_eq_false c1]
      exact ⟨0, rfl, by omega, by omega⟩
  obtain ⟨q, hq, hq1, hq2⟩ := hb
  rw [hq, Option.bind_some, hw]
  by_cases c2 : s.at_ + 1 ≤ ((c.length : Nat) : Int)
  · rw [decide_eq_true c2]
    exact ⟨_, _, rfl, ⟨rfl, by show 0 ≤ s.at_ + 1; omega, by show s.at_ + 1 ≤ m + 1; omega⟩, hq1, hq2⟩
  · rw [decide_eq_false c2]
    refine ⟨_, _, rfl, ⟨rfl, by show 0 ≤ s.at_ + 1; omega, by show s.at_ + 1 ≤ m + 1; omega⟩, ?_⟩
    have key := and255 (BitVec.ofInt 64 ((IntKind.wrap .u64 ((IntKind.wrap .u64 ((IntKind.wrap .u64 (s.seed * (6364136223846793005 : Int))) + (IntKind.wrap .u64 q))) + (1442695040888963407 : Int))).fdiv (2 ^ 40)))
    show 0 ≤ IntKind.wrap .i64 (IntKind.wrap .u64 (((BitVec.ofInt 64 ((IntKind.wrap .u64 ((IntKind.wrap .u64 ((IntKind.wrap .u64 (s.seed * (6364136223846793005 : Int))) + (IntKind.wrap .u64 q))) + (1442695040888963407 : Int))).fdiv (2 ^ 40)) &&& BitVec.ofInt 64 255).toNat : Nat) : Int)) ∧ IntKind.wrap .i64 (IntKind.wrap .u64 (((BitVec.ofInt 64 ((IntKind.wrap .u64 ((IntKind.wrap .u64 ((IntKind.wrap .u64 (s.seed * (6364136223846793005 : Int))) + (IntKind.wrap .u64 q))) + (1442695040888963407 : Int))).fdiv (2 ^ 40)) &&& BitVec.ofInt 64 255).toNat : Nat) : Int)) ≤ 255
    generalize ((((BitVec.ofInt 64 ((IntKind.wrap .u64 ((IntKind.wrap .u64 ((IntKind.wrap .u64 (s.seed * (6364136223846793005 : Int))) + (IntKind.wrap .u64 q))) + (1442695040888963407 : Int))).fdiv (2 ^ 40)) &&& BitVec.ofInt 64 255).toNat : Nat) : Int)) = z at key
    rw [wrapU64 (by omega) (by omega), wrap64 (by omega) (by omega)]
    exact key
theorem p_pick {c : List Int} (hc : bytesOk c) {m : Int} (hm : m ≤ 100000000000) {s : Tl00Src} (h : srcOk c m s) (n : Int) (hn : n ≤ 1000000000000) : ∃ s' v, G.s_l00Src_pick s.code s.at_ s.seed n = some (s', v) ∧ srcOk c (m + 2) s' ∧ 0 ≤ v ∧ (1 ≤ n → v < n) := by
  unfold G.s_l00Src_pick
  by_cases c1 : n ≤ 1
  · rw [decide_eq_true c1]
    exact ⟨_, 0, rfl, ⟨h.1, h.2.1, by have := h.2.2; show s.at_ ≤ m + 2; omega⟩, by omega, by omega⟩
  · rw [decide_eq_false c1]
    obtain ⟨s1, v1, e1, h1, b1, b2⟩ := p_next hc (by omega) h
    rw [cond_false, e1, Option.bind_some]
    by_cases c2 : 200 < n
    · rw [decide_eq_true c2]
      obtain ⟨s2, v2, e2, h2, b3, b4⟩ := p_next hc (m := m + 1) (by omega) h1
      simp only [cond_true, e2, Option.bind_some]
      rw [if_neg (by omega), wrap64 (x := v1 * 256) (by omega) (by omega), wrap64 (x := v1 * 256 + v2) (by omega) (by omega)]
      refine ⟨_, _, rfl, ⟨h2.1, h2.2.1, by have := h2.2.2; show s2.at_ ≤ m + 2; omega⟩, Int.tmod_nonneg _ (by omega), fun _ => Int.tmod_lt_of_pos _ (by omega)⟩
    · rw [decide_eq_false c2]
      simp only [cond_false, Option.bind_some]
      rw [if_neg (by omega)]
      refine ⟨_, _, rfl, ⟨h1.1, h1.2.1, by have := h1.2.2; show s1.at_ ≤ m + 2; omega⟩, Int.tmod_nonneg _ (by omega), fun _ => Int.tmod_lt_of_pos _ (by omega)⟩
theorem p_one {c : List Int} (hc : bytesOk c) {m : Int} (hm : m ≤ 100000000000) {s : Tl00Src} (h : srcOk c m s) (n : Int) (hn : n ≤ 1000000000000) : ∃ s' v, G.s_l00Src_one s.code s.at_ s.seed n = some (s', v) ∧ srcOk c (m + 2) s' := by
  obtain ⟨s1, v, e, h1, _⟩ := p_pick hc hm h n hn
  exact ⟨s1, _, by rw [G.s_l00Src_one, e]; rfl, h1⟩
theorem mem_getD {α : Type} [Inhabited α] {l : List α} {i : Nat} (hi : i < l.length) : l.getD i default ∈ l := by
  rw [List.getD_eq_getElem?_getD, List.getElem?_eq_getElem hi, Option.getD_some]
  exact List.getElem_mem hi
theorem p_among {c : List Int} (hc : bytesOk c) {m : Int} (hm : m ≤ 100000000000) {s : Tl00Src} (h : srcOk c m s) (l : List Int) (h0 : 1 ≤ l.length) (hl : l.length ≤ 1000000) : ∃ s' v, G.s_l00Src_among s.code s.at_ s.seed l = some (s', v) ∧ srcOk c (m + 2) s' ∧ v ∈ l := by
  obtain ⟨s1, v, e, h1, b1, b2⟩ := p_pick hc hm h ((l.length : Nat) : Int) (by omega)
  have := b2 (by omega)
  refine ⟨s1, _, by rw [G.s_l00Src_among, e, Option.bind_some, if_pos ⟨b1, this⟩], h1, mem_getD (by omega)⟩
theorem p_text {c : List Int} (hc : bytesOk c) {m : Int} (hm : m ≤ 100000000000) {s : Tl00Src} (h : srcOk c m s) (l : List ByteArray) (h0 : 1 ≤ l.length) (hl : l.length ≤ 1000000) : ∃ s' v, G.s_l00Src_text s.code s.at_ s.seed l = some (s', v) ∧ srcOk c (m + 2) s' ∧ v ∈ l := by
  obtain ⟨s1, v, e, h1, b1, b2⟩ := p_pick hc hm h ((l.length : Nat) : Int) (by omega)
  have := b2 (by omega)
  refine ⟨s1, _, by rw [G.s_l00Src_text, e, Option.bind_some, if_pos ⟨b1, this⟩], h1, mem_getD (by omega)⟩
theorem bytes_in {rows : List (List CV)} (h : ∀ r ∈ rows, Okl [.int .u8] r) : ∃ a : List Int, rows = mapR rI_u8 a ∧ ∀ x ∈ a, 0 ≤ x ∧ x ≤ 255 := by
  refine rows_of (f := rI_u8) (rows := rows) (fun r hr => ?_)
  obtain ⟨y0, ys0, rfl, e0, k0⟩ := okcons (h r hr)
  obtain rfl := oknil k0
  obtain ⟨v0, rfl, b0, c0⟩ := okint e0
  exact ⟨v0, rfl, b0, c0⟩
end Go.Proofs.Ytnhgffhnfegiiaa.Fw
namespace Go.Proofs.Ytnhgffhnfegiiaa.Fw
open Go.RowKit
set_option linter.unusedVariables false
set_option linter.unusedSimpArgs false
theorem p_l24DrawOne {c : List Int} (hc : bytesOk c) {m : Int} (hm : m ≤ 10000000000) {s : Tl00Src} (h : srcOk c m s) (n : ByteArray) (hn : n.size ≤ 9223372036854775807) : ∃ s' b, G.s_l24DrawOne s.code s.at_ s.seed n = some (s', b) ∧ srcOk c (m + 6) s' ∧ fitBond b := by
  obtain ⟨s1, v1, e1, h1, _⟩ := p_pick hc (by omega) h 20 (by omega)
  obtain ⟨s2, v2, e2, h2, _⟩ := p_among hc (by omega) h1 [0, 5, 20, 100] (by simp) (by simp)
  obtain ⟨s3, v3, e3, h3, _⟩ := p_among hc (by omega) h2 [10, 30, 60, 45, 1, 90] (by simp) (by simp)
  simp only [G.s_l24DrawOne, e1, Option.bind_some, e2, e3]
  exact ⟨_, _, rfl, h3.mono (by omega), hn⟩
theorem p_l24Bend {c : List Int} (hc : bytesOk c) {m : Int} (hm : m ≤ 10000000000) {s : Tl00Src} (h : srcOk c m s) (b : TBond) (hb : fitBond b) : ∃ s' b', G.s_l24Bend s.code s.at_ s.seed b.Name b.Spread b.Open b.Press = some (s', b') ∧ srcOk c (m + 4) s' ∧ fitBond b' := by
  obtain ⟨s1, v1, e1, h1, _⟩ := p_pick hc (by omega) h 20 (by omega)
  obtain ⟨t1, w1, f1, g1, _⟩ := p_among hc (by omega) h1 [0, 120, 121] (by simp) (by simp)
  obtain ⟨t2, w2, f2, g2, _⟩ := p_among hc (by omega) h1 [IntKind.wrap .i64 (b.Spread - 1), 240, 241] (by simp) (by simp)
  obtain ⟨t3, w3, f3, g3, _⟩ := p_among hc (by omega) h1 [0, 1440, 1441] (by simp) (by simp)
  obtain ⟨t4, w4, f4, g4, k4⟩ := p_text hc (by omega) h1 [⟨#[]⟩, ⟨#[66]⟩] (by simp) (by simp)
  have hw4 : w4.size ≤ 9223372036854775807 := by
    simp only [List.mem_cons, List.not_mem_nil, or_false] at k4
    rcases k4 with rfl | rfl <;> decide
  simp only [G.s_l24Bend, e1, Option.bind_some]
  by_cases c0 : v1 = 0
  · rw [decide_eq_true c0]
    simp only [cond_true, f1, Option.bind_some]
    exact ⟨_, _, rfl, g1.mono (by omega), hb⟩
  rw [decide_eq_false c0]
  by_cases c1 : v1 = 1
  · rw [decide_eq_true c1]
    simp only [cond_false, cond_true, f2, Option.bind_some]
    exact ⟨_, _, rfl, g2.mono (by omega), hb⟩
  rw [decide_eq_false c1]
  by_cases c2 : v1 = 2
  · rw [decide_eq_true c2]
    simp only [cond_false, cond_true, f3, Option.bind_some]
    exact ⟨_, _, rfl, g3.mono (by omega), hb⟩
  rw [decide_eq_false c2]
  by_cases c3 : v1 = 3
  · rw [decide_eq_true c3]
    simp only [cond_false, cond_true, f4, Option.bind_some]
    exact ⟨_, _, rfl, g4.mono (by omega), hw4⟩
  rw [decide_eq_false c3]
  simp only [cond_false, Option.bind_some]
  exact ⟨_, _, rfl, h1.mono (by omega), hb⟩
def bondsIn (a : List TBond) (n : Nat) : Prop := a.length ≤ n ∧ ∀ x ∈ a, fitBond x
theorem bondsIn.snoc {a : List TBond} {n : Nat} (h : bondsIn a n) {b : TBond} (hb : fitBond b) : bondsIn (a ++ [b]) (n + 1) := by
  refine ⟨by have := h.1; simp; omega, fun x hx => ?_⟩
  simp only [List.mem_append, List.mem_cons, List.not_mem_nil, or_false] at hx
  rcases hx with hx | rfl
  · exact h.2 x hx
  · exact hb
theorem p_l24DrawList {c : List Int} (hc : bytesOk c) {m : Int} (hm : m ≤ 1000000000) {s : Tl00Src} (h : srcOk c m s) : ∃ s' a, G.s_l24DrawList s.code s.at_ s.seed = some (s', a) ∧ srcOk c (m + 100) s' ∧ bondsIn a 13 := by
  have h1 := iter_go (step := G.s_l24DrawList.s0) (n := 6) (A := Tl00Src × List TBond) (g := fun x => (x.1.code, x.1.at_, x.1.seed, x.2)) (fun i x => (x.1.code, x.1.at_, x.1.seed, x.2, (i : Int))) (fun i x => srcOk c (m + 10 * i) x.1 ∧ bondsIn x.2 i) (fun _ => False) ?_ ?_ 6 0 (s, []) (by omega) ⟨h.mono (by omega), by simp [bondsIn]⟩
  · rcases h1 with ⟨⟨s1, a1⟩, ⟨h2, h3⟩, h4⟩ | ⟨r, hr, _⟩
    · have h4 : iter G.s_l24DrawList.s0 (s.code, s.at_, s.seed, [], 0) = _ := h4
      simp only at h2 h3
      obtain ⟨s2, v2, e2, g2, _⟩ := p_pick hc (by omega) h2 20 (by omega)
      simp only [G.s_l24DrawList, h4, jn, Option.bind_some, Sum.elim_inl, e2]
      by_cases c0 : v2 = 0
      · rw [decide_eq_true c0]
        obtain ⟨s3, b3, e3, g3, k3⟩ := p_l24DrawOne hc (by omega) g2 ⟨#[97]⟩ (by decide)
        obtain ⟨s4, b4, e4, g4, k4⟩ := p_l24Bend hc (by omega) g3 b3 k3
        simp only [cond_true, e3, e4, Option.bind_some]
        have := h3.1
        rw [if_pos ⟨by omega, by omega⟩]
        obtain ⟨k5, k6⟩ := h3.snoc k4
        exact ⟨_, _, rfl, g4.mono (by omega), Nat.le_trans k5 (by omega), k6⟩
      rw [decide_eq_false c0]
      by_cases c1 : v2 = 1
      · rw [decide_eq_true c1]
        obtain ⟨s3, v3, e3, g3, k3⟩ := p_among hc (by omega) g2 [12, 13] (by simp) (by simp)
        have k3 : v3 = 12 ∨ v3 = 13 := by simpa using k3
        obtain ⟨n3, rfl⟩ : ∃ n3 : Nat, v3 = (n3 : Int) := ⟨v3.toNat, by omega⟩
        have h5 := iter_go (step := G.s_l24DrawList.s1 (s3, (n3 : Int))) (n := n3) (A := List TBond) (g := fun x => x) (fun i x => (x, (i : Int))) (fun i x => bondsIn x i) (fun _ => False) ?_ ?_ n3 0 [] (by omega) (by simp [bondsIn])
        · rcases h5 with ⟨a5, h6, h7⟩ | ⟨r, hr, _⟩
          · have h7 : iter (G.s_l24DrawList.s1 (s3, (n3 : Int))) ([], 0) = _ := h7
            simp only [cond_false, cond_true, e3, Option.bind_some, h7, jn, Sum.elim_inl]
            exact ⟨_, _, rfl, g3.mono (by omega), by have := h6.1; omega, h6.2⟩
          · exact hr.elim
        · rintro i a hi ha
          have hd : decide ((i : Int) < (n3 : Int)) = true := decide_eq_true (by omega)
          have hw : IntKind.wrap .i64 ((i : Int) + 1) = ((i + 1 : Nat) : Int) := by rw [wrap64 (by omega) (by omega)]; omega
          have hl := ha.1
          simp only [G.s_l24DrawList.s1, hd, cond_true, hw]
          rw [if_neg (by omega), if_pos ⟨by omega, by omega⟩]
          refine .inl ⟨_, rfl, ha.snoc ?_⟩
          show (_ : Nat) ≤ _
          rw [ByteArray.size_append]
          exact (by decide : 1 + 1 ≤ 9223372036854775807)
        · rintro a ha
          have hd : decide ((n3 : Int) < (n3 : Int)) = false := by simp
          simp only [G.s_l24DrawList.s1, hd, cond_false]
      rw [decide_eq_false c1]
      simp only [cond_false, Option.bind_some]
      exact ⟨_, _, rfl, g2.mono (by omega), by have := h3.1; omega, h3.2⟩
    · exact hr.elim
  · rintro i ⟨s1, a1⟩ hi ⟨h2, h3⟩
    simp only at h2 h3
    have hd : decide ((i : Int) < (6 : Int)) = true := decide_eq_true (by omega)
    have hw : IntKind.wrap .i64 ((i : Int) + 1) = ((i + 1 : Nat) : Int) := by rw [wrap64 (by omega) (by omega)]; omega
    obtain ⟨s2, v2, e2, g2⟩ := p_one hc (by omega) h2 2 (by omega)
    have hl := h3.1
    simp only [G.s_l24DrawList.s0, hd, cond_true, hw, e2, Option.bind_some, Int.toNat_natCast]
    cases v2 with
    | false =>
      simp only [cond_false, Option.bind_some]
      exact .inl ⟨(s2, a1), rfl, g2.mono (by omega), Nat.le_trans h3.1 (by omega), h3.2⟩
    | true =>
      have hsz : (([(⟨#[97]⟩ : ByteArray), (⟨#[98]⟩ : ByteArray), (⟨#[99]⟩ : ByteArray), (⟨#[100]⟩ : ByteArray), (⟨#[101]⟩ : ByteArray), (⟨#[102]⟩ : ByteArray)] : List ByteArray).getD i default).size ≤ 9223372036854775807 := by
        have hi' : i = 0 ∨ i = 1 ∨ i = 2 ∨ i = 3 ∨ i = 4 ∨ i = 5 := by omega
        rcases hi' with rfl | rfl | rfl | rfl | rfl | rfl <;> decide
      obtain ⟨s3, b3, e3, g3, k3⟩ := p_l24DrawOne hc (by omega) g2 _ hsz
      simp only [cond_true]
      rw [if_pos ⟨by omega, by omega⟩, e3]
      simp only [Option.bind_some]
      rw [if_pos ⟨by omega, by omega⟩]
      obtain ⟨k5, k6⟩ := h3.snoc k3
      exact .inl ⟨(s3, a1 ++ [b3]), rfl, g3.mono (by omega), k5, k6⟩
  · rintro ⟨s1, a1⟩ _
    rfl
theorem p_l24DrawPresses {c : List Int} (hc : bytesOk c) {m : Int} (hm : m ≤ 10000000000) {s : Tl00Src} (h : srcOk c m s) : ∃ s' v, G.s_l24DrawPresses s.code s.at_ s.seed = some (s', v) ∧ srcOk c (m + 4) s' := by
  obtain ⟨s1, v1, e1, h1⟩ := p_one hc (by omega) h 9 (by omega)
  obtain ⟨s2, v2, e2, h2, _⟩ := p_among hc (by omega) h1 [0, 4, 5] (by simp) (by simp)
  obtain ⟨s3, v3, e3, h3, _⟩ := p_pick hc (by omega) h1 3 (by omega)
  cases v1 with
  | true => exact ⟨s2, v2, by simp only [G.s_l24DrawPresses, e1, Option.bind_some, cond_true, e2], h2.mono (by omega)⟩
  | false => exact ⟨s3, _, by simp only [G.s_l24DrawPresses, e1, Option.bind_some, cond_false, e3]; rfl, h3.mono (by omega)⟩
theorem p_l24Draw {c : List Int} (hc : bytesOk c) {m : Int} (hm : m ≤ 100000000) {s : Tl00Src} (h : srcOk c m s) : ∃ s' a o p, G.s_l24Draw s.code s.at_ s.seed = some (s', a, o, p) ∧ bondsIn a 13 ∧ o.length ≤ 14 := by
  obtain ⟨s1, a, e1, h1, ha⟩ := p_l24DrawList hc (by omega) h
  have hal := ha.1
  have h0 := iter_go (step := G.s_l24Draw.s0 (s1, a)) (n := a.length) (A := List Int) (g := fun x => x) (fun i x => (x, (i : Int))) (fun i x => x.length = i) (fun _ => False) ?_ ?_ a.length 0 [] (by omega) rfl
  · rcases h0 with ⟨o, ho, h0⟩ | ⟨r, hr, _⟩
    · have h0 : iter (G.s_l24Draw.s0 (s1, a)) ([], 0) = _ := h0
      obtain ⟨s2, v2, e2, h2, k2, k3⟩ := p_pick hc (by omega) h1 4 (by omega)
      have k3 := k3 (by omega)
      simp only [G.s_l24Draw, e1, Option.bind_some, h0, jn, Sum.elim_inl, e2]
      obtain ⟨r3, h3, s3, o3, rfl, h4, h5⟩ := iter_by (step := G.s_l24Draw.s1 (s1, a)) (fun x => ∃ s' : Tl00Src, x.1 = s'.code ∧ x.2.1 = s'.at_ ∧ x.2.2.1 = s'.seed ∧ 0 ≤ x.2.2.2.2 ∧ x.2.2.2.2 ≤ 3 ∧ srcOk c (m + 200 - 2 * x.2.2.2.2) s' ∧ x.2.2.2.1.length = a.length) (fun x => x.2.2.2.2.toNat) (fun r => ∃ (s' : Tl00Src) (o' : List Int), r = .inl (s'.code, s'.at_, s'.seed, o') ∧ srcOk c (m + 200) s' ∧ o'.length = a.length) (by
        rintro ⟨x1, x2, x3, o4, k⟩ ⟨s4, rfl, rfl, rfl, q1, q2, q3, q4⟩
        simp only at q1 q2 q3 q4
        simp only [G.s_l24Draw.s1]
        by_cases c0 : 0 < k
        · rw [decide_eq_true c0]
          by_cases c1 : (1 : Int) < ((a.length : Nat) : Int)
          · rw [decide_eq_true c1]
            have hw : IntKind.wrap .i64 (((a.length : Nat) : Int) - 1) = ((a.length : Nat) : Int) - 1 := wrap64 (by omega) (by omega)
            obtain ⟨s5, v5, e5, h5, k5, k6⟩ := p_pick hc (by omega) q3 (((a.length : Nat) : Int) - 1) (by omega)
            have k6 := k6 (by omega)
            have hw2 : IntKind.wrap .i64 (v5 + 1) = v5 + 1 := wrap64 (by omega) (by omega)
            have hw3 : IntKind.wrap .i64 (k - 1) = k - 1 := wrap64 (by omega) (by omega)
            simp only [cond_true, Option.bind_some, hw, e5, hw2, hw3, List.length_set]
            rw [if_pos ⟨by omega, by omega⟩, if_pos ⟨by omega, by omega⟩, if_pos ⟨by omega, by omega⟩, if_pos ⟨by omega, by omega⟩]
            refine .inl ⟨_, rfl, ⟨s5, rfl, rfl, rfl, ?_, ?_, h5.mono ?_, ?_⟩, ?_⟩
            · show 0 ≤ k - 1; omega
            · show k - 1 ≤ 3; omega
            · show m + 200 - 2 * k + 2 ≤ m + 200 - 2 * (k - 1); omega
            · simp only [List.length_set]; exact q4
            · show (k - 1).toNat < k.toNat; omega
          · rw [decide_eq_false c1]
            exact .inr ⟨_, rfl, s4, o4, rfl, q3.mono (by omega), q4⟩
        · rw [decide_eq_false c0]
          exact .inr ⟨_, rfl, s4, o4, rfl, q3.mono (by omega), q4⟩) (s2.code, s2.at_, s2.seed, o, v2) ⟨s2, rfl, rfl, rfl, k2, by show v2 ≤ 3; omega, h2.mono (by show m + 100 + 2 ≤ m + 200 - 2 * v2; omega), ho⟩
      obtain ⟨s6, v6, e6, h6⟩ := p_one hc (by omega) h4 10 (by omega)
      obtain ⟨s7, v7, e7, h7⟩ := p_l24DrawPresses hc (by omega) h6
      simp only [h3, Option.bind_some, Sum.elim_inl, e6]
      cases v6 with
      | false =>
        simp only [cond_false, Option.bind_some, e7]
        exact ⟨_, _, _, _, rfl, ha, by omega⟩
      | true =>
        simp only [cond_true]
        rw [if_pos ⟨by omega, by omega⟩]
        simp only [Option.bind_some, e7]
        exact ⟨_, _, _, _, rfl, ha, by rw [List.length_append]; simp; omega⟩
    · exact hr.elim
  · rintro i x hi hx
    have hd : decide ((i : Int) < ((a.length : Nat) : Int)) = true := decide_eq_true (by omega)
    have hw : IntKind.wrap .i64 ((i : Int) + 1) = ((i + 1 : Nat) : Int) := by rw [wrap64 (by omega) (by omega)]; omega
    refine .inl ⟨x ++ [(i : Int)], ?_, by simp [hx]⟩
    simp only [G.s_l24Draw.s0, hd, cond_true, hw]
    rw [if_pos ⟨by omega, by omega⟩]
  · rintro x hx
    have hd : decide (((a.length : Nat) : Int) < ((a.length : Nat) : Int)) = false := by simp
    simp only [G.s_l24Draw.s0, hd, cond_false]
theorem p_DrawPressTimes {c : List Int} (hc : bytesOk c) : ∃ a o p, G.s_DrawPressTimes c = some (a, o, p) ∧ bondsIn a 13 ∧ o.length ≤ 14 := by
  obtain ⟨s', a, o, p, e, h1, h2⟩ := p_l24Draw hc (m := 0) (by omega) (s := ⟨c, 0, 0⟩) ⟨rfl, by simp, by simp⟩
  refine ⟨a, o, p, ?_, h1, h2⟩
  simp only [G.s_DrawPressTimes, G.s_l00From, Option.bind_some, e]
end Go.Proofs.Ytnhgffhnfegiiaa.Fw
namespace Go.Proofs.Ytnhgffhnfegiiaa.Fw
open Go.RowKit
set_option linter.unusedVariables false
set_option linter.unusedSimpArgs false
/-- The first least of the first values. -/
def pm (f : List Int) : Nat → Nat
  | 0 => 0
  | k + 1 => if f.getD k default < f.getD (pm f k) default then k else pm f k
theorem pm_lt (f : List Int) (k : Nat) : pm f (k + 1) < k + 1 := by
  induction k with
  | zero => simp [pm]
  | succ k ih =>
    rw [pm]
    split
    · omega
    · omega
theorem pm_one (f : List Int) : pm f 1 = 0 := by simp [pm]
theorem pm_take (f : List Int) (p : Nat) : ∀ k, k ≤ p → pm (f.take p) k = pm f k := by
  intro k
  induction k with
  | zero => intro _; rfl
  | succ k ih =>
    intro hk
    have h1 := ih (by omega)
    have h2 : pm f k < p := by
      cases k with
      | zero => simp [pm]; omega
      | succ k => have := pm_lt f k; omega
    have g : ∀ j, j < p → (f.take p).getD j default = f.getD j default := fun j hj => by
      simp only [List.getD_eq_getElem?_getD, List.getElem?_take, hj, if_true]
    rw [pm, pm, h1, g k (by omega), g _ h2]
structure GT where
  start : Int
  press : Nat
  beg : Int
  fin : Int
def gTime (p : Nat) (s : Int × List Int) (b : TBond) : GT :=
  let q := pm s.2 p
  let fq := s.2.getD q default
  let st := max s.1 (fq - b.Open)
  let bg := max (st + b.Spread) fq
  ⟨st, q, bg, bg + b.Press⟩
def gNext (p : Nat) (s : Int × List Int) (b : TBond) : Int × List Int := ((gTime p s b).start + b.Spread, s.2.set (gTime p s b).press (gTime p s b).fin)
def gBond (a : List TBond) (o : List Int) (i : Nat) : TBond := a.getD (o.getD i default).toNat default
def gSt (p : Nat) (a : List TBond) (o : List Int) : Nat → Int × List Int
  | 0 => (0, [0, 0, 0, 0])
  | i + 1 => gNext p (gSt p a o i) (gBond a o i)
def gTm (p : Nat) (a : List TBond) (o : List Int) (i : Nat) : GT := gTime p (gSt p a o i) (gBond a o i)
def gEnd (p : Nat) (a : List TBond) (o : List Int) : Nat → Int
  | 0 => 0
  | i + 1 => max (gEnd p a o i) (gTm p a o i).fin
/-- An order whose places all are bonds. -/
def okOrd (a : List TBond) (o : List Int) : Prop := ∀ i, i < o.length → 0 ≤ o.getD i default ∧ o.getD i default < (a.length : Int)
theorem gBond_R {a : List TBond} (ha : tameB a) {o : List Int} (ho : okOrd a o) {i : Nat} (hi : i < o.length) : bondR (gBond a o i) := by
  have := ho i hi
  exact ha.2 _ (by omega)
/-- All values stay small. -/
def gIn (s : Int × List Int) (m : Int) : Prop := s.2.length = 4 ∧ 0 ≤ s.1 ∧ s.1 ≤ m ∧ ∀ j, j < 4 → 0 ≤ s.2.getD j default ∧ s.2.getD j default ≤ m
theorem gTime_in {p : Nat} (hp : 1 ≤ p ∧ p ≤ 4) {s : Int × List Int} {m : Int} (hs : gIn s m) {b : TBond} (hb : bondR b) : (gTime p s b).press < p ∧ 0 ≤ (gTime p s b).start ∧ (gTime p s b).start ≤ m ∧ 0 ≤ (gTime p s b).beg ∧ (gTime p s b).beg ≤ m + 120 ∧ 0 ≤ (gTime p s b).fin ∧ (gTime p s b).fin ≤ m + 1560 := by
  obtain ⟨h1, h2, h3, h4⟩ := hs
  obtain ⟨b1, b2, b3, b4, b5, b6⟩ := hb
  have hq : pm s.2 p < p := by
    obtain ⟨k, rfl⟩ : ∃ k, p = k + 1 := ⟨p - 1, by omega⟩
    exact pm_lt s.2 k
  have hf := h4 (pm s.2 p) (by omega)
  simp only [gTime]
  generalize s.2.getD (pm s.2 p) default = fq at *
  refine ⟨hq, ?_, ?_, ?_, ?_, ?_, ?_⟩ <;> omega
theorem gNext_in {p : Nat} (hp : 1 ≤ p ∧ p ≤ 4) {s : Int × List Int} {m : Int} (hs : gIn s m) {b : TBond} (hb : bondR b) : gIn (gNext p s b) (m + 1560) := by
  obtain ⟨t1, t2, t3, t4, t5, t6, t7⟩ := gTime_in hp hs hb
  obtain ⟨h1, h2, h3, h4⟩ := hs
  obtain ⟨b1, b2, b3, b4, b5, b6⟩ := hb
  refine ⟨by simp [gNext, h1], by simp only [gNext]; omega, by simp only [gNext]; omega, fun j hj => ?_⟩
  simp only [gNext]
  by_cases e : (gTime p s b).press = j
  · subst e
    rw [getD_set_self _ _ _ _ (by omega)]
    omega
  · rw [List.getD_eq_getElem?_getD, List.getElem?_set, if_neg e, ← List.getD_eq_getElem?_getD]
    have := h4 j hj
    omega
theorem gSt_in {p : Nat} (hp : 1 ≤ p ∧ p ≤ 4) {a : List TBond} (ha : tameB a) {o : List Int} (ho : okOrd a o) : ∀ i, i ≤ o.length → gIn (gSt p a o i) (1560 * i) := by
  intro i
  induction i with
  | zero =>
    intro _
    refine ⟨rfl, by simp [gSt], by simp [gSt], fun j hj => ?_⟩
    have : j = 0 ∨ j = 1 ∨ j = 2 ∨ j = 3 := by omega
    rcases this with rfl | rfl | rfl | rfl <;> simp [gSt]
  | succ i ih =>
    intro hi
    have := gNext_in hp (ih (by omega)) (gBond_R ha ho (i := i) (by omega))
    rw [show ((i + 1 : Nat) : Int) = i + 1 from by omega, Int.mul_add]
    exact this
theorem gEnd_in {p : Nat} (hp : 1 ≤ p ∧ p ≤ 4) {a : List TBond} (ha : tameB a) {o : List Int} (ho : okOrd a o) : ∀ i, i ≤ o.length → 0 ≤ gEnd p a o i ∧ gEnd p a o i ≤ 1560 * i := by
  intro i
  induction i with
  | zero => intro _; simp [gEnd]
  | succ i ih =>
    intro hi
    have h1 := ih (by omega)
    have h2 := gTime_in hp (gSt_in hp ha ho i (by omega)) (gBond_R ha ho (i := i) (by omega))
    have h3 : gTm p a o i = gTime p (gSt p a o i) (gBond a o i) := rfl
    rw [← h3] at h2
    simp only [gEnd]
    omega
/-! the reference -/
def gRow (t : GT) : List Int := [t.start, (t.press : Int), t.beg, t.fin]
end Go.Proofs.Ytnhgffhnfegiiaa.Fw
namespace Go.Proofs.Ytnhgffhnfegiiaa.Fw
open Go.RowKit
set_option linter.unusedVariables false
set_option linter.unusedSimpArgs false
theorem s0_add (f0 f1 f2 f3 : Int) (p q i : Nat) (hq : q < 4) (hi : i < 4) (hp : i < p) : G.i_gluing_add.s0 f0 f1 f2 f3 (p : Int) ((q : Int), (i : Int)) = some (.inl (((if [f0, f1, f2, f3].getD i default < [f0, f1, f2, f3].getD q default then i else q : Nat) : Int), ((i + 1 : Nat) : Int))) := by
  have h3 : decide ((i : Int) < (p : Int)) = true := decide_eq_true (by omega)
  have hw : IntKind.wrap .i64 ((i : Int) + 1) = ((i + 1 : Nat) : Int) := by rw [wrap64 (by omega) (by omega)]; omega
  simp only [G.i_gluing_add.s0, h3, cond_true, hw]
  have hi' : i = 0 ∨ i = 1 ∨ i = 2 ∨ i = 3 := by omega
  have hq' : q = 0 ∨ q = 1 ∨ q = 2 ∨ q = 3 := by omega
  have key : ∀ x y : Int, (bif decide (x < y) then some (i : Int) else some (q : Int)) = some (((if x < y then i else q : Nat) : Int)) := by
    intro x y
    by_cases c : x < y
    · rw [decide_eq_true c, if_pos c]; rfl
    · rw [decide_eq_false c, if_neg c]; rfl
  simp only [key, Option.bind_some]
  clear key hw h3 hp
  rcases hi' with rfl | rfl | rfl | rfl <;> rcases hq' with rfl | rfl | rfl | rfl <;> rfl
theorem p_scan (f0 f1 f2 f3 : Int) (p : Nat) (hp : 1 ≤ p ∧ p ≤ 4) : iter (G.i_gluing_add.s0 f0 f1 f2 f3 (p : Int)) ((0 : Int), (0 : Int)) = some (.inl ((pm [f0, f1, f2, f3] p : Nat) : Int)) := by
  have hh := iter_go (step := G.i_gluing_add.s0 f0 f1 f2 f3 (p : Int)) (n := p) (A := Unit) (g := fun _ => ((pm [f0, f1, f2, f3] p : Nat) : Int)) (fun i _ => (((pm [f0, f1, f2, f3] i : Nat) : Int), (i : Int))) (fun i _ => True) (fun _ => False) ?_ ?_ p 0 () (by omega) trivial
  · rcases hh with ⟨_, _, h⟩ | ⟨r, hr, _⟩
    · exact h
    · exact hr.elim
  · rintro i _ hi _
    have hl : pm [f0, f1, f2, f3] i < 4 := by
      cases i with
      | zero => simp [pm]
      | succ k => have := pm_lt [f0, f1, f2, f3] k; omega
    exact .inl ⟨(), s0_add f0 f1 f2 f3 p _ i hl (by omega) hi, trivial⟩
  · rintro _ _
    have h3 : decide ((p : Int) < (p : Int)) = false := by simp
    simp only [G.i_gluing_add.s0, h3, cond_false]
theorem p_add (p : Nat) (hp : 1 ≤ p ∧ p ≤ 4) (r f0 f1 f2 f3 e m : Int) (b : TBond) (hs : gIn (r, [f0, f1, f2, f3]) m) (hm : m ≤ 1000000) (hb : bondR b) :
    ∃ g : Tgluing, G.i_gluing_add r f0 f1 f2 f3 e b.Name b.Spread b.Open b.Press (p : Int) = some (g, Tglued.mk (gTime p (r, [f0, f1, f2, f3]) b).start ((gTime p (r, [f0, f1, f2, f3]) b).press : Int) (gTime p (r, [f0, f1, f2, f3]) b).beg (gTime p (r, [f0, f1, f2, f3]) b).fin) ∧
      (g.ready, [g.free.1, g.free.2.1, g.free.2.2.1, g.free.2.2.2]) = gNext p (r, [f0, f1, f2, f3]) b ∧ g.end_ = max e (gTime p (r, [f0, f1, f2, f3]) b).fin := by
  have hq : pm [f0, f1, f2, f3] p < 4 := by
    have := (gTime_in hp hs hb).1
    simp only [gTime] at this
    omega
  obtain ⟨_, h2, h3, h4⟩ := hs
  simp only at h2 h3 h4
  have hb' := hb
  unfold bondR at hb'
  have wr : ∀ x : Int, 0 ≤ x → x ≤ m → IntKind.wrap .i64 (x - b.Open) = x - b.Open ∧ IntKind.wrap .i64 (max r (x - b.Open) + b.Spread) = max r (x - b.Open) + b.Spread ∧ IntKind.wrap .i64 (max (max r (x - b.Open) + b.Spread) x + b.Press) = max (max r (x - b.Open) + b.Spread) x + b.Press := fun x hx1 hx2 => ⟨wrap64 (by omega) (by omega), wrap64 (by omega) (by omega), wrap64 (by omega) (by omega)⟩
  have g0 := h4 0 (by omega)
  have g1 := h4 1 (by omega)
  have g2 := h4 2 (by omega)
  have g3 := h4 3 (by omega)
  obtain ⟨a1, a2, a3⟩ := wr f0 g0.1 g0.2
  obtain ⟨b1, b2, b3⟩ := wr f1 g1.1 g1.2
  obtain ⟨c1, c2, c3⟩ := wr f2 g2.1 g2.2
  obtain ⟨d1, d2, d3⟩ := wr f3 g3.1 g3.2
  simp only [G.i_gluing_add, p_scan f0 f1 f2 f3 p hp, jn, Option.bind_some, Sum.elim_inl, a1, a2, a3, b1, b2, b3, c1, c2, c3, d1, d2, d3]
  simp only [gNext, gTime]
  have hq' : pm [f0, f1, f2, f3] p = 0 ∨ pm [f0, f1, f2, f3] p = 1 ∨ pm [f0, f1, f2, f3] p = 2 ∨ pm [f0, f1, f2, f3] p = 3 := by omega
  rcases hq' with h | h | h | h <;> rw [h] <;> exact ⟨_, rfl, rfl, rfl⟩
def gOut (p : Nat) (a : List TBond) (o : List Int) (n : Nat) : Nat → List Tglued
  | 0 => List.replicate n (Tglued.mk 0 0 0 0)
  | i + 1 => (gOut p a o n i).set (o.getD i default).toNat (Tglued.mk (gTm p a o i).start ((gTm p a o i).press : Int) (gTm p a o i).beg (gTm p a o i).fin)
theorem gOut_length (p : Nat) (a : List TBond) (o : List Int) (n i : Nat) : (gOut p a o n i).length = n := by
  induction i with
  | zero => simp [gOut]
  | succ i ih => simp [gOut, ih]
theorem p_glueAll (p : Nat) (hp : 1 ≤ p ∧ p ≤ 4) (a : List TBond) (ha : tameB a) (o : List Int) (ho : okOrd a o) (hn : o.length ≤ 100) : G.i_glueAll a o (p : Int) = some (gOut p a o a.length o.length, gEnd p a o o.length) := by
  have hal := ha.1
  unfold G.i_glueAll
  rw [if_pos (makeOk_of (by omega) (by omega))]
  have hh := iter_go (step := G.i_glueAll.s0 a o (p : Int)) (n := o.length) (A := Int × Int × Int × Int × Int × Int × List Tglued) (g := fun x => x) (fun i x => (x.1, x.2.1, x.2.2.1, x.2.2.2.1, x.2.2.2.2.1, x.2.2.2.2.2.1, x.2.2.2.2.2.2, (i : Int)))
    (fun i x => (x.1, [x.2.1, x.2.2.1, x.2.2.2.1, x.2.2.2.2.1]) = gSt p a o i ∧ x.2.2.2.2.2.1 = gEnd p a o i ∧ x.2.2.2.2.2.2 = gOut p a o a.length i) (fun _ => False) ?_ ?_ o.length 0 (0, 0, 0, 0, 0, 0, List.replicate a.length (Tglued.mk 0 0 0 0)) (by omega) ⟨rfl, rfl, rfl⟩
  · rcases hh with ⟨x, ⟨_, h1, h2⟩, h⟩ | ⟨r, hr, _⟩
    · have h : iter (G.i_glueAll.s0 a o (p : Int)) (0, 0, 0, 0, 0, 0, List.replicate a.length (Tglued.mk 0 0 0 0), 0) = _ := h
      rw [h]
      simp only [jn, Option.bind_some, Sum.elim_inl, h1, h2]
    · exact hr.elim
  · rintro i ⟨r, f0, f1, f2, f3, e, O⟩ hi ⟨h1, h2, h3⟩
    simp only at h1 h2 h3
    have hs := gSt_in hp ha ho i (by omega)
    rw [← h1] at hs
    have hb := gBond_R ha ho hi
    obtain ⟨g, hg1, hg2, hg3⟩ := p_add p hp r f0 f1 f2 f3 e (1560 * i) (gBond a o i) hs (by omega) hb
    have hoi := ho i hi
    have hO : O.length = a.length := by rw [h3, gOut_length]
    have h4 : decide ((i : Int) < ((o.length : Nat) : Int)) = true := decide_eq_true (by omega)
    have hw : IntKind.wrap .i64 ((i : Int) + 1) = ((i + 1 : Nat) : Int) := by rw [wrap64 (by omega) (by omega)]; omega
    have hB : a.getD (o.getD i default).toNat default = gBond a o i := rfl
    have hT : gTime p (r, [f0, f1, f2, f3]) (gBond a o i) = gTm p a o i := by rw [h1]; rfl
    rw [hT] at hg1 hg3
    refine .inl ⟨(g.ready, g.free.1, g.free.2.1, g.free.2.2.1, g.free.2.2.2, g.end_, O.set (o.getD i default).toNat (Tglued.mk (gTm p a o i).start ((gTm p a o i).press : Int) (gTm p a o i).beg (gTm p a o i).fin)), ?_, ?_, ?_, ?_⟩
    · simp only [G.i_glueAll.s0, h4, cond_true, Int.toNat_natCast, hw, hB, hg1, Option.bind_some, hO]
      rw [if_pos ⟨by omega, by omega⟩, if_pos ⟨by omega, by omega⟩, if_pos ⟨by omega, by omega⟩]
    · show (g.ready, [g.free.1, g.free.2.1, g.free.2.2.1, g.free.2.2.2]) = _
      rw [hg2, h1]
      rfl
    · show g.end_ = _
      rw [hg3, h2]
      rfl
    · show O.set _ _ = _
      rw [h3]
      rfl
  · rintro ⟨r, f0, f1, f2, f3, e, O⟩ _
    have h3 : decide (((o.length : Nat) : Int) < ((o.length : Nat) : Int)) = false := by simp
    simp only [G.i_glueAll.s0, h3, cond_false]
end Go.Proofs.Ytnhgffhnfegiiaa.Fw
namespace Go.Proofs.Ytnhgffhnfegiiaa.Fw
open Go.RowKit
set_option linter.unusedVariables false
set_option linter.unusedSimpArgs false
section
variable {p : Nat} {a : List TBond} {o : List Int}
theorem gTime_facts (hp : 1 ≤ p ∧ p ≤ 4) {s : Int × List Int} {b : TBond} (hb : bondR b) :
    (gTime p s b).fin = (gTime p s b).beg + b.Press ∧ (gTime p s b).start + b.Spread ≤ (gTime p s b).beg ∧ (gTime p s b).beg ≤ (gTime p s b).start + b.Open ∧ s.1 ≤ (gTime p s b).start ∧ s.2.getD (gTime p s b).press default ≤ (gTime p s b).beg := by
  obtain ⟨b1, b2, b3, b4, b5, b6⟩ := hb
  refine ⟨rfl, ?_⟩
  simp only [gTime]
  generalize s.2.getD (pm s.2 p) default = fq
  refine ⟨?_, ?_, ?_, ?_⟩ <;> omega
theorem gSt_one (i : Nat) : (gSt p a o (i + 1)).1 = (gTm p a o i).start + (gBond a o i).Spread := rfl
theorem gSt_two (i : Nat) : (gSt p a o (i + 1)).2 = (gSt p a o i).2.set (gTm p a o i).press (gTm p a o i).fin := rfl
variable (hp : 1 ≤ p ∧ p ≤ 4) (ha : tameB a) (ho : okOrd a o)
include hp ha ho
theorem gTm_facts {i : Nat} (hi : i < o.length) :
    (gTm p a o i).fin = (gTm p a o i).beg + (gBond a o i).Press ∧ (gTm p a o i).start + (gBond a o i).Spread ≤ (gTm p a o i).beg ∧ (gTm p a o i).beg ≤ (gTm p a o i).start + (gBond a o i).Open ∧ (gSt p a o i).1 ≤ (gTm p a o i).start ∧ (gSt p a o i).2.getD (gTm p a o i).press default ≤ (gTm p a o i).beg ∧ (gTm p a o i).press < p ∧ 0 ≤ (gTm p a o i).start := by
  have h1 := gTime_facts hp (s := gSt p a o i) (gBond_R ha ho hi)
  have h2 := gTime_in hp (gSt_in hp ha ho i (by omega)) (gBond_R ha ho hi)
  exact ⟨h1.1, h1.2.1, h1.2.2.1, h1.2.2.2.1, h1.2.2.2.2, h2.1, h2.2.1⟩
theorem ready_mono {i j : Nat} (hij : i ≤ j) (hj : j ≤ o.length) : (gSt p a o i).1 ≤ (gSt p a o j).1 := by
  induction j with
  | zero => have : i = 0 := by omega
            subst this; exact Int.le_refl _
  | succ j ih =>
    by_cases c : i = j + 1
    · subst c; exact Int.le_refl _
    · have h1 := ih (by omega) (by omega)
      have h2 := gTm_facts hp ha ho (i := j) (by omega)
      have h3 := gBond_R ha ho (i := j) (by omega)
      unfold bondR at h3
      rw [gSt_one]
      omega
theorem starts_apart {i j : Nat} (hij : i < j) (hj : j < o.length) : (gTm p a o i).start + (gBond a o i).Spread ≤ (gTm p a o j).start := by
  have h1 := ready_mono hp ha ho (i := i + 1) (j := j) (by omega) (by omega)
  have h2 := gTm_facts hp ha ho (i := j) hj
  rw [gSt_one] at h1
  omega
theorem free_mono {i j k : Nat} (hij : i ≤ j) (hj : j ≤ o.length) (hk : k < 4) : (gSt p a o i).2.getD k default ≤ (gSt p a o j).2.getD k default := by
  induction j with
  | zero => have : i = 0 := by omega
            subst this; exact Int.le_refl _
  | succ j ih =>
    by_cases c : i = j + 1
    · subst c; exact Int.le_refl _
    · have h1 := ih (by omega) (by omega)
      have h2 := gTm_facts hp ha ho (i := j) (by omega)
      have h3 := gBond_R ha ho (i := j) (by omega)
      have hl := (gSt_in hp ha ho j (by omega)).1
      unfold bondR at h3
      rw [gSt_two]
      by_cases e : (gTm p a o j).press = k
      · subst e
        rw [getD_set_self _ _ _ _ (by omega)]
        omega
      · rw [List.getD_eq_getElem?_getD (l := List.set _ _ _), List.getElem?_set, if_neg e, ← List.getD_eq_getElem?_getD]
        exact h1
theorem press_apart {i j : Nat} (hij : i < j) (hj : j < o.length) (e : (gTm p a o i).press = (gTm p a o j).press) : (gTm p a o i).fin ≤ (gTm p a o j).beg := by
  have h1 := gTm_facts hp ha ho (i := i) (by omega)
  have h2 := gTm_facts hp ha ho (i := j) hj
  have hl := (gSt_in hp ha ho i (by omega)).1
  have h3 := free_mono hp ha ho (i := i + 1) (j := j) (k := (gTm p a o i).press) (by omega) (by omega) (by omega)
  rw [gSt_two, getD_set_self _ _ _ _ (by omega)] at h3
  rw [e] at h3
  omega
omit hp ha ho in
theorem fin_le {i n : Nat} (hi : i < n) : (gTm p a o i).fin ≤ gEnd p a o n := by
  induction n with
  | zero => omega
  | succ n ih =>
    simp only [gEnd]
    by_cases c : i = n
    · subst c; omega
    · have := ih (by omega); omega
theorem free_le {i k : Nat} (hi : i ≤ o.length) (hk : k < 4) : (gSt p a o i).2.getD k default ≤ gEnd p a o i := by
  induction i with
  | zero =>
    have hk' : k = 0 ∨ k = 1 ∨ k = 2 ∨ k = 3 := by omega
    rcases hk' with rfl | rfl | rfl | rfl <;> simp [gSt, gEnd]
  | succ i ih =>
    have h1 := ih (by omega)
    have hl := (gSt_in hp ha ho i (by omega)).1
    have h2 := gTm_facts hp ha ho (i := i) (by omega)
    rw [gSt_two, gEnd]
    by_cases e : (gTm p a o i).press = k
    · subst e
      rw [getD_set_self _ _ _ _ (by omega)]
      omega
    · rw [List.getD_eq_getElem?_getD, List.getElem?_set, if_neg e, ← List.getD_eq_getElem?_getD]
      omega
theorem ready_sum {i : Nat} (hi : i ≤ o.length) : sumN i (fun j => (gBond a o j).Spread) ≤ (gSt p a o i).1 := by
  induction i with
  | zero => exact Int.le_refl _
  | succ i ih =>
    have h1 := ih (by omega)
    have h2 := gTm_facts hp ha ho (i := i) (by omega)
    rw [gSt_one]
    simp only [sumN]
    omega
theorem busy_sum {s : Int} (hs0 : 0 ≤ s) (hs : ∀ j, j < o.length → s ≤ (gBond a o j).Spread) {i : Nat} (hi : i ≤ o.length) : sumN i (fun j => (gBond a o j).Press) ≤ sumN p fun k => max 0 ((gSt p a o i).2.getD k default - s) := by
  induction i with
  | zero =>
    have := sumN_le (n := p) (g := fun _ => 0) (h := fun k => max 0 ((gSt p a o 0).2.getD k default - s)) fun k _ => by show (0 : Int) ≤ max 0 _; omega
    rw [sumN_const] at this
    simp only [sumN]
    omega
  | succ i ih =>
    have h1 := ih (by omega)
    have h2 := gTm_facts hp ha ho (i := i) (by omega)
    have h3 := hs i (by omega)
    have hl := (gSt_in hp ha ho i (by omega)).1
    have h4 := sumN_upd (n := p) (y := (gTm p a o i).press) (g := fun k => max 0 ((gSt p a o i).2.getD k default - s)) (h := fun k => max 0 ((gSt p a o (i + 1)).2.getD k default - s)) h2.2.2.2.2.2.1 (fun k _ hk => by
      show max 0 ((gSt p a o (i + 1)).2.getD k default - s) = _
      rw [gSt_two, List.getD_eq_getElem?_getD, List.getElem?_set, if_neg (fun h => hk h.symm), ← List.getD_eq_getElem?_getD])
    rw [h4]
    have h5 : (gSt p a o (i + 1)).2.getD (gTm p a o i).press default = (gTm p a o i).fin := by rw [gSt_two, getD_set_self _ _ _ _ (by omega)]
    simp only [h5, sumN]
    have h6 := h2.1
    have h7 := h2.2.1
    have h8 := h2.2.2.2.2.1
    have h9 := h2.2.2.2.2.2.2
    omega
/-- No order ends before the bound. -/
theorem bound_le {n : Nat} (hn : n = o.length) (h0 : 0 < n) {s m : Int} (hs0 : 0 ≤ s) (hs : ∀ j, j < n → s ≤ (gBond a o j).Spread) (hm : ∀ j, j < n → m ≤ (gBond a o j).Press) :
    sumN n (fun j => (gBond a o j).Spread) + m ≤ gEnd p a o n ∧ sumN n (fun j => (gBond a o j).Press) ≤ p * (gEnd p a o n - s) ∧ s ≤ gEnd p a o n := by
  obtain ⟨k, rfl⟩ : ∃ k, n = k + 1 := ⟨n - 1, by omega⟩
  have h1 := ready_sum hp ha ho (i := k) (by omega)
  have h2 := gTm_facts hp ha ho (i := k) (by omega)
  have h3 := fin_le (p := p) (a := a) (o := o) (i := k) (n := k + 1) (by omega)
  have h4 := hm k (by omega)
  have h5 := hs k (by omega)
  have h8 := gBond_R ha ho (i := k) (by omega)
  unfold bondR at h8
  refine ⟨by simp only [sumN]; omega, ?_, by omega⟩
  have h6 := busy_sum hp ha ho hs0 (fun j hj => hs j (by omega)) (i := k + 1) (by omega)
  have h7 := sumN_le (n := p) (g := fun q => max 0 ((gSt p a o (k + 1)).2.getD q default - s)) (h := fun _ => gEnd p a o (k + 1) - s) fun q hq => by
    have := free_le hp ha ho (i := k + 1) (k := q) (by omega) (by omega)
    show max 0 _ ≤ gEnd p a o (k + 1) - s
    omega
  rw [sumN_const] at h7
  omega
end
theorem gOut_get (p : Nat) {a : List TBond} {o : List Int} {n : Nat} (h : isPerm o n) : ∀ i, i ≤ n → ∀ j, j < i → (gOut p a o n i).getD (o.getD j default).toNat default = Tglued.mk (gTm p a o j).start ((gTm p a o j).press : Int) (gTm p a o j).beg (gTm p a o j).fin := by
  intro i
  induction i with
  | zero => intro _ j hj; omega
  | succ i ih =>
    intro hi j hj
    have hl := gOut_length p a o n i
    have hr := h.range i (by omega)
    simp only [gOut]
    by_cases c : j = i
    · subst c
      exact getD_set_self _ _ _ _ (by omega)
    · have hne : (o.getD i default).toNat ≠ (o.getD j default).toNat := by
        have h1 := h.inj j i (by omega) (by omega)
        have h2 := h.range j (by omega)
        omega
      rw [List.getD_eq_getElem?_getD, List.getElem?_set, if_neg hne, ← List.getD_eq_getElem?_getD]
      exact ih (by omega) j (by omega)
end Go.Proofs.Ytnhgffhnfegiiaa.Fw
namespace Go.Proofs.Ytnhgffhnfegiiaa.Fw
open Go.RowKit
set_option linter.unusedVariables false
set_option linter.unusedSimpArgs false
/-! sums and least values -/
theorem p_sumOf (l : List Int) (n : Nat) (hn : l.length = n) (hl : n ≤ 1000000) (hb : ∀ i, i < n → 0 ≤ l.getD i default ∧ l.getD i default ≤ 1000000) : G.i_sumOf l = some (sumN n fun i => l.getD i default) := by
  subst hn
  have hb2 : ∀ i, i ≤ l.length → 0 ≤ sumN i (fun i => l.getD i default) ∧ sumN i (fun i => l.getD i default) ≤ 1000000 * i := by
    intro i
    induction i with
    | zero => intro _; simp [sumN]
    | succ i ih => intro hi; have h1 := ih (by omega); have h2 := hb i (by omega); simp only [sumN]; omega
  unfold G.i_sumOf
  have hh := iter_go (step := G.i_sumOf.s0 l) (n := l.length) (A := Unit) (g := fun _ => sumN l.length fun i => l.getD i default) (fun i _ => (sumN i fun i => l.getD i default, (i : Int))) (fun i _ => True) (fun _ => False) ?_ ?_ l.length 0 () (by omega) trivial
  · rcases hh with ⟨_, _, h⟩ | ⟨r, hr, _⟩
    · have h : iter (G.i_sumOf.s0 l) (0, 0) = _ := h
      rw [h]
      rfl
    · exact hr.elim
  · rintro i _ hi _
    have hd : decide ((i : Int) < ((l.length : Nat) : Int)) = true := decide_eq_true (by omega)
    have hw : IntKind.wrap .i64 ((i : Int) + 1) = ((i + 1 : Nat) : Int) := by rw [wrap64 (by omega) (by omega)]; omega
    have h1 := hb2 (i + 1) (by omega)
    simp only [sumN] at h1
    refine .inl ⟨(), ?_, trivial⟩
    simp only [G.i_sumOf.s0, hd, cond_true, hw, Int.toNat_natCast]
    rw [if_pos ⟨by omega, by omega⟩, wrap64 (by omega) (by omega)]
    rfl
  · rintro _ _
    have hd : decide (((l.length : Nat) : Int) < ((l.length : Nat) : Int)) = false := by simp
    simp only [G.i_sumOf.s0, hd, cond_false]
theorem p_Min (l : List Int) (h0 : 0 < l.length) (hl : l.length ≤ 1000000) : ∃ m, G.slices_Min_int64_int64 l = some m ∧ (∀ i, i < l.length → m ≤ l.getD i default) ∧ ∃ i, i < l.length ∧ l.getD i default = m := by
  unfold G.slices_Min_int64_int64
  rw [decide_eq_false (by omega)]
  simp only [cond_false]
  rw [if_pos ⟨by omega, by omega⟩]
  have hz : ∀ j, j < 1 → l.getD 0 default ≤ l.getD j default := fun j hj => by
    have : j = 0 := by omega
    subst this
    exact Int.le_refl _
  have hh := iter_go (step := G.slices_Min_int64_int64.s0 l) (n := l.length) (A := Int) (g := fun m => m) (fun i m => (m, (i : Int))) (fun i m => (∀ j, j < i → m ≤ l.getD j default) ∧ ∃ j, j < l.length ∧ l.getD j default = m) (fun _ => False) ?_ ?_ (l.length - 1) 1 (l.getD 0 default) (by omega) ⟨hz, 0, h0, rfl⟩
  · rcases hh with ⟨m, ⟨h1, h2⟩, h⟩ | ⟨r, hr, _⟩
    · have h : iter (G.slices_Min_int64_int64.s0 l) (l.getD 0 default, 1) = _ := h
      rw [h]
      exact ⟨m, rfl, h1, h2⟩
    · exact hr.elim
  · rintro i m hi ⟨h1, k, hk, h2⟩
    have hd : decide ((i : Int) < ((l.length : Nat) : Int)) = true := decide_eq_true (by omega)
    have hw : IntKind.wrap .i64 ((i : Int) + 1) = ((i + 1 : Nat) : Int) := by rw [wrap64 (by omega) (by omega)]; omega
    refine .inl ⟨min m (l.getD i default), ?_, ?_, ?_⟩
    · simp only [G.slices_Min_int64_int64.s0, hd, cond_true, hw, Int.toNat_natCast]
      rw [if_pos ⟨by omega, by omega⟩]
    · intro j hj
      by_cases c : j = i
      · subst c; omega
      · have := h1 j (by omega); omega
    · by_cases c : m ≤ l.getD i default
      · exact ⟨k, hk, by omega⟩
      · exact ⟨i, hi, by omega⟩
  · rintro m _
    have hd : decide (((l.length : Nat) : Int) < ((l.length : Nat) : Int)) = false := by simp
    simp only [G.slices_Min_int64_int64.s0, hd, cond_false]
theorem take_snoc {α : Type} [Inhabited α] {l : List α} {i : Nat} (hi : i < l.length) : l.take i ++ [l.getD i default] = l.take (i + 1) := by
  rw [List.take_succ_eq_append_getElem hi, List.getD_eq_getElem?_getD, List.getElem?_eq_getElem hi, Option.getD_some]
theorem map_getD {α : Type} [Inhabited α] (l : List α) (f : α → Int) {i : Nat} (hi : i < l.length) : (l.map f).getD i default = f (l.getD i default) := by
  simp [List.getD_eq_getElem?_getD, hi]
/-! what the law's calls come to -/
theorem p_bound_loop (a : List TBond) (hn : a.length ≤ 1000000) : iter (G.i_GlueBound.s0 a) (([] : List Int), ([] : List Int), (0 : Int)) = some (.inl (a.map TBond.Spread, a.map TBond.Press)) := by
  have hh := iter_go (step := G.i_GlueBound.s0 a) (n := a.length) (A := Unit) (g := fun _ => (a.map TBond.Spread, a.map TBond.Press)) (fun i _ => ((a.take i).map TBond.Spread, (a.take i).map TBond.Press, (i : Int))) (fun i _ => True) (fun _ => False) ?_ ?_ a.length 0 () (by omega) trivial
  · rcases hh with ⟨_, _, h⟩ | ⟨r, hr, _⟩
    · exact h
    · exact hr.elim
  · rintro i _ hi _
    have hd : decide ((i : Int) < ((a.length : Nat) : Int)) = true := decide_eq_true (by omega)
    have hw : IntKind.wrap .i64 ((i : Int) + 1) = ((i + 1 : Nat) : Int) := by rw [wrap64 (by omega) (by omega)]; omega
    have hl : (a.take i).length ≤ i := by rw [List.length_take]; omega
    refine .inl ⟨(), ?_, trivial⟩
    simp only [G.i_GlueBound.s0, hd, cond_true, hw, Int.toNat_natCast, List.length_map]
    rw [if_pos ⟨by omega, by omega⟩, if_pos ⟨by omega, by omega⟩, if_pos ⟨by omega, by omega⟩, ← take_snoc hi]
    simp only [List.map_append, List.map_cons, List.map_nil]
  · rintro _ _
    have hd : decide (((a.length : Nat) : Int) < ((a.length : Nat) : Int)) = false := by simp
    simp only [G.i_GlueBound.s0, hd, cond_false, List.take_length]
theorem upDiv_le {x p y : Int} (hp : 1 ≤ p) (h0 : 0 ≤ x) (h : x ≤ p * y) : (x + p - 1).tdiv p ≤ y := by
  rw [Int.tdiv_eq_ediv_of_nonneg (by omega)]
  have h2 : x + p - 1 < (y + 1) * p := by rw [Int.add_mul, Int.mul_comm y p]; omega
  have := Int.ediv_lt_of_lt_mul (by omega) h2
  omega
/-- The bound that the program tells. -/
theorem p_GlueBound (a : List TBond) (ha : tameB a) (hv : G.i_ValidBonds a = some true) (p : Nat) (hp : 1 ≤ p ∧ p ≤ 4) (o : List Int) (ho : isPerm o a.length) : ∃ low, G.i_GlueBound a (p : Int) = some (low, 0) ∧ low ≤ gEnd p a o a.length := by
  have hn := ha.1
  have hor : okOrd a o := fun i hi => by rw [ho.len] at hi; exact ho.range i hi
  have hin : inR (p : Int) 1 4 = true := by simp only [inR, Bool.and_eq_true, decide_eq_true_eq]; omega
  have hpc : G.i_pressCode a (p : Int) = some 0 := by simp only [G.i_pressCode, hv, Option.bind_some, cond_true, p_within, hin]
  by_cases h0 : a.length = 0
  · refine ⟨0, ?_, ?_⟩
    · have hd : decide (((a.length : Nat) : Int) = 0) = true := decide_eq_true (by omega)
      simp only [G.i_GlueBound, hpc, Option.bind_some, decide_true, cond_true, hd]
    · rw [h0]; exact Int.le_refl _
  · have hd : decide (((a.length : Nat) : Int) = 0) = false := decide_eq_false (by omega)
    have hS : ∀ i, i < a.length → (a.map TBond.Spread).getD i default = (a.getD i default).Spread := fun i hi => map_getD a _ hi
    have hP : ∀ i, i < a.length → (a.map TBond.Press).getD i default = (a.getD i default).Press := fun i hi => map_getD a _ hi
    have hlS : (a.map TBond.Spread).length = a.length := List.length_map _
    have hlP : (a.map TBond.Press).length = a.length := List.length_map _
    have hR : ∀ i, i < a.length → bondR (a.getD i default) := ha.2
    have s1 := p_sumOf (a.map TBond.Spread) a.length hlS (by omega) fun i hi => by rw [hS i hi]; have := hR i hi; unfold bondR at this; omega
    have s2 := p_sumOf (a.map TBond.Press) a.length hlP (by omega) fun i hi => by rw [hP i hi]; have := hR i hi; unfold bondR at this; omega
    obtain ⟨m1, e1, f1, k1, hk1, g1⟩ := p_Min (a.map TBond.Spread) (by omega) (by omega)
    obtain ⟨m2, e2, f2, k2, hk2, g2⟩ := p_Min (a.map TBond.Press) (by omega) (by omega)
    rw [hlS] at f1 hk1
    rw [hlP] at f2 hk2
    rw [sumN_ext (h := fun i => (a.getD i default).Spread) fun i hi => hS i hi] at s1
    rw [sumN_ext (h := fun i => (a.getD i default).Press) fun i hi => hP i hi] at s2
    rw [hS k1 hk1] at g1
    rw [hP k2 hk2] at g2
    have r1 := hR k1 hk1
    have r2 := hR k2 hk2
    unfold bondR at r1 r2
    have t1 := ho.sum fun i => (a.getD i default).Spread
    have t2 := ho.sum fun i => (a.getD i default).Press
    have key := bound_le hp ha hor (n := a.length) ho.len.symm (by omega) (s := m1) (m := m2) (by omega)
      (fun j hj => by have := ho.range j hj; have := f1 (o.getD j default).toNat (by omega); rw [hS _ (by omega)] at this; exact this)
      (fun j hj => by have := ho.range j hj; have := f2 (o.getD j default).toNat (by omega); rw [hP _ (by omega)] at this; exact this)
    have t1' : sumN a.length (fun j => (gBond a o j).Spread) = sumN a.length fun i => (a.getD i default).Spread := t1
    have t2' : sumN a.length (fun j => (gBond a o j).Press) = sumN a.length fun i => (a.getD i default).Press := t2
    rw [t1', t2'] at key
    have hub := gEnd_in hp ha hor a.length (by rw [ho.len]; omega)
    have hs1 : 0 ≤ sumN a.length fun i => (a.getD i default).Spread := by
      have := sumN_le (n := a.length) (g := fun _ => 0) (h := fun i => (a.getD i default).Spread) fun i hi => by have := hR i hi; unfold bondR at this; omega
      rw [sumN_const] at this; omega
    have hs2 : 0 ≤ sumN a.length fun i => (a.getD i default).Press := by
      have := sumN_le (n := a.length) (g := fun _ => 0) (h := fun i => (a.getD i default).Press) fun i hi => by have := hR i hi; unfold bondR at this; omega
      rw [sumN_const] at this; omega
    have hs3 : sumN a.length (fun i => (a.getD i default).Press) ≤ 20000 := by
      have := sumN_le (n := a.length) (g := fun i => (a.getD i default).Press) (h := fun _ => 1440) fun i hi => by have := hR i hi; unfold bondR at this; omega
      rw [sumN_const] at this; omega
    generalize (sumN a.length fun i => (a.getD i default).Spread) = A at *
    generalize (sumN a.length fun i => (a.getD i default).Press) = B at *
    generalize gEnd p a o a.length = X at *
    have u1 := upDiv_le (x := B) (p := p) (y := X - m1) (by omega) hs2 key.2.1
    have u2 : 0 ≤ (B + p - 1).tdiv p := Int.tdiv_nonneg (by omega) (by omega)
    have w1 : IntKind.wrap .i64 (B + p) = B + p := wrap64 (by omega) (by omega)
    have w2 : IntKind.wrap .i64 (B + p - 1) = B + p - 1 := wrap64 (by omega) (by omega)
    have hup : G.i_upDiv B (p : Int) = some ((B + p - 1).tdiv p) := by
      simp only [G.i_upDiv, w1, w2]
      rw [if_neg (by omega), wrap64 (by omega) (by omega)]
    refine ⟨max (IntKind.wrap .i64 (A + m2)) (IntKind.wrap .i64 ((B + (p : Int) - 1).tdiv (p : Int) + m1)), by simp only [G.i_GlueBound, hpc, Option.bind_some, decide_true, cond_true, hd, cond_false, p_bound_loop a (by omega), jn, Sum.elim_inl, s1, e2, s2, hup, e1], ?_⟩
    rw [wrap64 (by omega) (by omega), wrap64 (by omega) (by omega)]
    omega
theorem p_PressTimes_loop (O : List Tglued) (e : Int) (hn : O.length ≤ 1000000) : iter (G.i_PressTimes.s0 (O, e)) (([] : List (List Int)), (0 : Int)) = some (.inl (O.map fun t => [t.press, t.begin, t.end_])) := by
  have hh := iter_go (step := G.i_PressTimes.s0 (O, e)) (n := O.length) (A := Unit) (g := fun _ => O.map fun t => [t.press, t.begin, t.end_]) (fun i _ => ((O.take i).map fun t => [t.press, t.begin, t.end_], (i : Int))) (fun i _ => True) (fun _ => False) ?_ ?_ O.length 0 () (by omega) trivial
  · rcases hh with ⟨_, _, h⟩ | ⟨r, hr, _⟩
    · exact h
    · exact hr.elim
  · rintro i _ hi _
    have hd : decide ((i : Int) < ((O.length : Nat) : Int)) = true := decide_eq_true (by omega)
    have hw : IntKind.wrap .i64 ((i : Int) + 1) = ((i + 1 : Nat) : Int) := by rw [wrap64 (by omega) (by omega)]; omega
    have hl : (O.take i).length ≤ i := by rw [List.length_take]; omega
    refine .inl ⟨(), ?_, trivial⟩
    simp only [G.i_PressTimes.s0, hd, cond_true, hw, Int.toNat_natCast, List.length_map]
    rw [if_pos ⟨by omega, by omega⟩, if_pos ⟨by omega, by omega⟩, ← take_snoc hi]
    simp only [List.map_append, List.map_cons, List.map_nil]
  · rintro _ _
    have hd : decide (((O.length : Nat) : Int) < ((O.length : Nat) : Int)) = false := by simp
    simp only [G.i_PressTimes.s0, hd, cond_false, List.take_length]
theorem p_GlueStarts_loop (O : List Tglued) (e : Int) (hn : O.length ≤ 1000000) : iter (G.i_GlueStarts.s0 (O, e)) (([] : List Int), (0 : Int)) = some (.inl (O.map Tglued.start)) := by
  have hh := iter_go (step := G.i_GlueStarts.s0 (O, e)) (n := O.length) (A := Unit) (g := fun _ => O.map Tglued.start) (fun i _ => ((O.take i).map Tglued.start, (i : Int))) (fun i _ => True) (fun _ => False) ?_ ?_ O.length 0 () (by omega) trivial
  · rcases hh with ⟨_, _, h⟩ | ⟨r, hr, _⟩
    · exact h
    · exact hr.elim
  · rintro i _ hi _
    have hd : decide ((i : Int) < ((O.length : Nat) : Int)) = true := decide_eq_true (by omega)
    have hw : IntKind.wrap .i64 ((i : Int) + 1) = ((i + 1 : Nat) : Int) := by rw [wrap64 (by omega) (by omega)]; omega
    have hl : (O.take i).length ≤ i := by rw [List.length_take]; omega
    refine .inl ⟨(), ?_, trivial⟩
    simp only [G.i_GlueStarts.s0, hd, cond_true, hw, Int.toNat_natCast, List.length_map]
    rw [if_pos ⟨by omega, by omega⟩, if_pos ⟨by omega, by omega⟩, ← take_snoc hi]
    simp only [List.map_append, List.map_cons, List.map_nil]
  · rintro _ _
    have hd : decide (((O.length : Nat) : Int) < ((O.length : Nat) : Int)) = false := by simp
    simp only [G.i_GlueStarts.s0, hd, cond_false, List.take_length]
/-- What the code says: a fault, or all is in order. -/
theorem p_glueCode (a : List TBond) (ha : ∀ x ∈ a, fitBond x) (hn : a.length ≤ 1000000) (o : List Int) (p : Int) :
    (∃ k, k ≠ 0 ∧ G.i_glueCode a o p = some k) ∨ (G.i_glueCode a o p = some 0 ∧ G.i_ValidBonds a = some true ∧ tameB a ∧ isPerm o a.length ∧ ∃ q : Nat, p = (q : Int) ∧ 1 ≤ q ∧ q ≤ 4) := by
  have hv := p_ValidBonds a ha (by omega)
  cases hb : bondsB a with
  | false =>
    rw [hb] at hv
    exact .inl ⟨1, by decide, by simp only [G.i_glueCode, hv, Option.bind_some, cond_false]⟩
  | true =>
    rw [hb] at hv
    cases hp : inR p 1 4 with
    | false => exact .inl ⟨2, by decide, by simp only [G.i_glueCode, hv, Option.bind_some, cond_true, p_within, hp, cond_false]⟩
    | true =>
      rcases p_isOrder o a.length hn with ho | ⟨ho, hper⟩
      · exact .inl ⟨2, by decide, by simp only [G.i_glueCode, hv, Option.bind_some, cond_true, p_within, hp, ho, Bool.not_false]⟩
      · simp only [inR, Bool.and_eq_true, decide_eq_true_eq] at hp
        refine .inr ⟨?_, hv, bondsB_R hb, hper, p.toNat, by omega, by omega, by omega⟩
        have hp' : inR p 1 4 = true := by simp only [inR, Bool.and_eq_true, decide_eq_true_eq]; exact hp
        simp only [G.i_glueCode, hv, Option.bind_some, cond_true, p_within, hp', ho, Bool.not_true, cond_false]
end Go.Proofs.Ytnhgffhnfegiiaa.Fw
namespace Go.Proofs.Ytnhgffhnfegiiaa.Fw
open Go.RowKit
set_option linter.unusedVariables false
set_option linter.unusedSimpArgs false
theorem s5_step (q2 : List TBond × List Int × Int) (Y : List (List Int)) (Z : List Int) (i k : Nat) (Pi Bi Fi Pk Bk Fk : Int) (hY : Y.length ≤ 1000) (hi : i < Y.length) (hk : k < i) (hZ : Z.length = Y.length) (ha : q2.1.length = Y.length)
    (hyi : Y.getD i default = [Pi, Bi, Fi]) (hyk : Y.getD k default = [Pk, Bk, Fk])
    (bi : 0 ≤ Z.getD i default ∧ Z.getD i default ≤ 100000) (bk : 0 ≤ Z.getD k default ∧ Z.getD k default ≤ 100000)
    (si : 0 ≤ (q2.1.getD i default).Spread ∧ (q2.1.getD i default).Spread ≤ 1000) (sk : 0 ≤ (q2.1.getD k default).Spread ∧ (q2.1.getD k default).Spread ≤ 1000)
    (h1 : Pi = Pk → Fk ≤ Bi ∨ Fi ≤ Bk) (h2 : Z.getD k default + (q2.1.getD k default).Spread ≤ Z.getD i default ∨ Z.getD i default + (q2.1.getD i default).Spread ≤ Z.getD k default) :
    G.l_FnGlue.s5 q2 Y Z (i : Int) (k : Int) = some (.inl ((k + 1 : Nat) : Int)) := by
  have hd : decide ((k : Int) < (i : Int)) = true := decide_eq_true (by omega)
  have hw : IntKind.wrap .i64 ((k : Int) + 1) = ((k + 1 : Nat) : Int) := by rw [wrap64 (by omega) (by omega)]; omega
  have w1 : IntKind.wrap .i64 (Z.getD k default + (q2.1.getD k default).Spread) = Z.getD k default + (q2.1.getD k default).Spread := wrap64 (by omega) (by omega)
  have w2 : IntKind.wrap .i64 (Z.getD i default + (q2.1.getD i default).Spread) = Z.getD i default + (q2.1.getD i default).Spread := wrap64 (by omega) (by omega)
  have l3 : ∀ x y z : Int, ([x, y, z].length : Nat) = 3 := fun _ _ _ => rfl
  have ck : 0 ≤ (k : Int) ∧ (k : Int) < ((Y.length : Nat) : Int) := ⟨by omega, by omega⟩
  have ci : 0 ≤ (i : Int) ∧ (i : Int) < ((Y.length : Nat) : Int) := ⟨by omega, by omega⟩
  have c0 : 0 ≤ (0 : Int) ∧ (0 : Int) < ((3 : Nat) : Int) := by omega
  have c1 : 0 ≤ (1 : Int) ∧ (1 : Int) < ((3 : Nat) : Int) := by omega
  have c2 : 0 ≤ (2 : Int) ∧ (2 : Int) < ((3 : Nat) : Int) := by omega
  simp only [G.l_FnGlue.s5, hd, cond_true, hw, Int.toNat_natCast, hyi, hyk, l3, if_pos c0, if_pos c1, if_pos c2, List.getD_cons_zero, List.getD_cons_succ, hZ, ha, if_pos ck, if_pos ci, w1, w2]
  generalize Z.getD k default = Sk at *
  generalize Z.getD i default = Si at *
  generalize (q2.1.getD k default).Spread = Xk at *
  generalize (q2.1.getD i default).Spread = Xi at *
  by_cases e1 : Pi = Pk <;> by_cases e2 : Bi < Fk <;> by_cases e3 : Bk < Fi <;> by_cases e4 : Si < Sk + Xk <;> by_cases e5 : Sk < Si + Xi <;> first
    | (exfalso; omega)
    | (simp only [e1, e2, e3, e4, e5, decide_true, decide_false, cond_true, cond_false, Option.bind_some])
theorem s4_step (q2 : List TBond × List Int × Int) (Y : List (List Int)) (Z : List Int) (e : Int × Int) (i : Nat) (P B F : Int) (hY : Y.length ≤ 1000) (hi : i < Y.length) (hZ : Z.length = Y.length) (ha : q2.1.length = Y.length)
    (hy : Y.getD i default = [P, B, F]) (bi : 0 ≤ Z.getD i default ∧ Z.getD i default ≤ 100000) (bB : 0 ≤ B ∧ B ≤ 1000000)
    (sp : 0 ≤ (q2.1.getD i default).Spread ∧ (q2.1.getD i default).Spread ≤ 1000) (so : 0 ≤ (q2.1.getD i default).Open ∧ (q2.1.getD i default).Open ≤ 1000) (sr : 0 ≤ (q2.1.getD i default).Press ∧ (q2.1.getD i default).Press ≥ 0 ∧ (q2.1.getD i default).Press ≤ 10000)
    (h1 : 0 ≤ P) (h2 : P < q2.2.2) (h3 : F = B + (q2.1.getD i default).Press) (h4 : Z.getD i default + (q2.1.getD i default).Spread ≤ B) (h5 : B ≤ Z.getD i default + (q2.1.getD i default).Open) (h6 : F ≤ e.1)
    (hs : iter (G.l_FnGlue.s5 q2 Y Z (i : Int)) (0 : Int) = some (.inl ())) : G.l_FnGlue.s4 q2 Y Z e (i : Int) = some (.inl ((i + 1 : Nat) : Int)) := by
  have hd : decide ((i : Int) < ((Y.length : Nat) : Int)) = true := decide_eq_true (by omega)
  have hw : IntKind.wrap .i64 ((i : Int) + 1) = ((i + 1 : Nat) : Int) := by rw [wrap64 (by omega) (by omega)]; omega
  have w1 : IntKind.wrap .i64 (Z.getD i default + (q2.1.getD i default).Spread) = Z.getD i default + (q2.1.getD i default).Spread := wrap64 (by omega) (by omega)
  have w2 : IntKind.wrap .i64 (Z.getD i default + (q2.1.getD i default).Open) = Z.getD i default + (q2.1.getD i default).Open := wrap64 (by omega) (by omega)
  have w3 : IntKind.wrap .i64 (B + (q2.1.getD i default).Press) = B + (q2.1.getD i default).Press := wrap64 (by omega) (by omega)
  have l3 : ∀ x y z : Int, ([x, y, z].length : Nat) = 3 := fun _ _ _ => rfl
  have ci : 0 ≤ (i : Int) ∧ (i : Int) < ((Y.length : Nat) : Int) := ⟨by omega, by omega⟩
  have c0 : 0 ≤ (0 : Int) ∧ (0 : Int) < ((3 : Nat) : Int) := by omega
  have c1 : 0 ≤ (1 : Int) ∧ (1 : Int) < ((3 : Nat) : Int) := by omega
  have c2 : 0 ≤ (2 : Int) ∧ (2 : Int) < ((3 : Nat) : Int) := by omega
  have c3 : decide (((3 : Nat) : Int) = (3 : Int)) = true := rfl
  have d1 : decide (P < 0) = false := decide_eq_false (by omega)
  have d2 : decide (q2.2.2 ≤ P) = false := decide_eq_false (by omega)
  have d3 : decide (F = B + (q2.1.getD i default).Press) = true := decide_eq_true h3
  have d4 : decide (B < Z.getD i default + (q2.1.getD i default).Spread) = false := decide_eq_false (by omega)
  have d5 : decide (Z.getD i default + (q2.1.getD i default).Open < B) = false := decide_eq_false (by omega)
  have d6 : decide (e.1 < F) = false := decide_eq_false (by omega)
  simp only [G.l_FnGlue.s4, hd, cond_true, hw, Int.toNat_natCast, hy, l3, if_pos c0, if_pos c1, if_pos c2, List.getD_cons_zero, List.getD_cons_succ, hZ, ha, if_pos ci, w1, w2, w3, c3, d1, d2, d3, d4, d5, d6, Bool.not_true, cond_false, Option.bind_some, hs, jn, Sum.elim_inl]
theorem law_Glue (c : List Int) (hb : ∀ x ∈ c, 0 ≤ x ∧ x ≤ 255) : G.l_FnGlue c = some true := by
  unfold G.l_FnGlue
  simp only [G.l_b10Long, Option.bind_some]
  by_cases hl : (1048576 : Int) < ((c.length : Nat) : Int)
  · rw [decide_eq_true hl]; rfl
  rw [decide_eq_false hl]
  obtain ⟨a, o, p, hD, ⟨ha1, ha2⟩, ho⟩ := p_DrawPressTimes (c := c) ⟨by omega, hb⟩
  simp only [cond_false, hD, Option.bind_some]
  rcases p_glueCode a ha2 (by omega) o p with ⟨k, hk, hg⟩ | ⟨hg, hv, ht, hper, q, rfl, hq⟩
  · have e1 : G.i_PressTimes a o p = some (none, k) := by simp only [G.i_PressTimes, hg, Option.bind_some, decide_eq_false hk, cond_false]
    have e2 : G.i_GlueStarts a o p = some (none, k) := by simp only [G.i_GlueStarts, hg, Option.bind_some, decide_eq_false hk, cond_false]
    have e3 : G.i_GlueEnd a o p = some (0, k) := by simp only [G.i_GlueEnd, hg, Option.bind_some, decide_eq_false hk, cond_false]
    simp only [e1, Option.bind_some, onO, e2, e3, decide_eq_false hk, cond_false, decide_true, cond_true]
  · have hor : okOrd a o := fun i hi => by rw [hper.len] at hi; exact hper.range i hi
    have hol : o.length = a.length := hper.len
    have hA := p_glueAll q hq a ht o hor (by omega)
    have hOl := gOut_length q a o a.length o.length
    have hOg := gOut_get q (a := a) hper a.length (Nat.le_refl _)
    rw [hol] at hA hOl
    generalize hO : gOut q a o a.length a.length = O at *
    have e1 : G.i_PressTimes a o (q : Int) = some (some (O.map fun t => [t.press, t.begin, t.end_]), 0) := by simp only [G.i_PressTimes, hg, Option.bind_some, decide_true, cond_true, hA, p_PressTimes_loop O _ (by omega), jn, Sum.elim_inl]
    have e2 : G.i_GlueStarts a o (q : Int) = some (some (O.map Tglued.start), 0) := by simp only [G.i_GlueStarts, hg, Option.bind_some, decide_true, cond_true, hA, p_GlueStarts_loop O _ (by omega), jn, Sum.elim_inl]
    have e3 : G.i_GlueEnd a o (q : Int) = some (gEnd q a o a.length, 0) := by simp only [G.i_GlueEnd, hg, Option.bind_some, decide_true, cond_true, hA]
    obtain ⟨low, e4, hlow⟩ := p_GlueBound a ht hv q hq o hper
    have hlY : (O.map fun t => [t.press, t.begin, t.end_]).length = a.length := by rw [List.length_map, hOl]
    have hlZ : (O.map Tglued.start).length = a.length := by rw [List.length_map, hOl]
    have hY : ∀ i, i < a.length → (O.map fun t => [t.press, t.begin, t.end_]).getD i default = [(O.getD i default).press, (O.getD i default).begin, (O.getD i default).end_] := fun i hi => by
      simp [List.getD_eq_getElem?_getD, hOl, hi]
    have hZ : ∀ i, i < a.length → (O.map Tglued.start).getD i default = (O.getD i default).start := fun i hi => by
      simp [List.getD_eq_getElem?_getD, hOl, hi]
    have pos : ∀ x, x < a.length → ∃ j, j < a.length ∧ O.getD x default = Tglued.mk (gTm q a o j).start ((gTm q a o j).press : Int) (gTm q a o j).beg (gTm q a o j).fin ∧ gBond a o j = a.getD x default ∧ o.getD j default = (x : Int) := fun x hx => by
      obtain ⟨j, hj, e⟩ := hper.onto hx
      have h1 := hOg j hj
      rw [e, Int.toNat_natCast] at h1
      exact ⟨j, hj, h1, by rw [gBond, e, Int.toNat_natCast], e⟩
    have hRb : ∀ x, x < a.length → bondR (a.getD x default) := ht.2
    have facts : ∀ x, x < a.length → ∃ j, j < a.length ∧ (O.getD x default).press = ((gTm q a o j).press : Int) ∧ (O.getD x default).begin = (gTm q a o j).beg ∧ (O.getD x default).end_ = (gTm q a o j).fin ∧ (O.getD x default).start = (gTm q a o j).start ∧ gBond a o j = a.getD x default ∧ o.getD j default = (x : Int) ∧ 0 ≤ (gTm q a o j).start ∧ (gTm q a o j).start ≤ 100000 ∧ 0 ≤ (gTm q a o j).beg ∧ (gTm q a o j).beg ≤ 1000000 := fun x hx => by
      obtain ⟨j, hj, e, eb, eo⟩ := pos x hx
      have h1 := gTime_in hq (gSt_in hq ht hor j (by omega)) (gBond_R ht hor (i := j) (by omega))
      have hn := ht.1
      refine ⟨j, hj, by rw [e], by rw [e], by rw [e], by rw [e], eb, eo, h1.2.1, ?_, h1.2.2.2.1, ?_⟩
      · have := h1.2.2.1
        show (gTime q (gSt q a o j) (gBond a o j)).start ≤ _
        omega
      · have := h1.2.2.2.2.1
        show (gTime q (gSt q a o j) (gBond a o j)).beg ≤ _
        omega
    have hn := ht.1
    have inner : ∀ i, i < a.length → iter (G.l_FnGlue.s5 (a, o, (q : Int)) (O.map fun t => [t.press, t.begin, t.end_]) (O.map Tglued.start) (i : Int)) (0 : Int) = some (.inl ()) := fun i hi => by
      have hh := iter_go (step := G.l_FnGlue.s5 (a, o, (q : Int)) (O.map fun t => [t.press, t.begin, t.end_]) (O.map Tglued.start) (i : Int)) (n := i) (A := Unit) (g := fun _ => ()) (fun k _ => (k : Int)) (fun _ _ => True) (fun _ => False) ?_ ?_ i 0 () (by omega) trivial
      · rcases hh with ⟨_, _, h⟩ | ⟨r, hr, _⟩
        · exact h
        · exact hr.elim
      · rintro k _ hk _
        obtain ⟨ji, hji, p1, b1, f1, s1, g1, o1, t1, t2, t3, t4⟩ := facts i hi
        obtain ⟨jk, hjk, p2, b2, f2, s2, g2, o2, u1, u2, u3, u4⟩ := facts k (by omega)
        have ri := hRb i hi
        have rk := hRb k (by omega)
        unfold bondR at ri rk
        have hne : ji ≠ jk := fun h => by rw [h] at o1; omega
        have hz1 := hZ i hi
        have hz2 := hZ k (by omega)
        refine .inl ⟨(), s5_step _ _ _ i k _ _ _ _ _ _ (by omega) (by omega) hk (by omega) (by show a.length = _; omega) (hY i hi) (hY k (by omega)) (by omega) (by omega) (by show 0 ≤ (a.getD i default).Spread ∧ (a.getD i default).Spread ≤ 1000; omega) (by show 0 ≤ (a.getD k default).Spread ∧ (a.getD k default).Spread ≤ 1000; omega) ?_ ?_, trivial⟩
        · intro he
          have he' : (gTm q a o ji).press = (gTm q a o jk).press := by omega
          rcases Nat.lt_or_gt_of_ne hne with h | h
          · have := press_apart hq ht hor h (by omega) he'
            right; omega
          · have := press_apart hq ht hor h (by omega) he'.symm
            left; omega
        · show _ + (a.getD k default).Spread ≤ _ ∨ _ + (a.getD i default).Spread ≤ _
          rw [← g1, ← g2]
          rcases Nat.lt_or_gt_of_ne hne with h | h
          · have := starts_apart hq ht hor h (by omega)
            right; omega
          · have := starts_apart hq ht hor h (by omega)
            left; omega
      · rintro _ _
        have hd : decide ((i : Int) < (i : Int)) = false := by simp
        simp only [G.l_FnGlue.s5, hd, cond_false]
    have outer : iter (G.l_FnGlue.s4 (a, o, (q : Int)) (O.map fun t => [t.press, t.begin, t.end_]) (O.map Tglued.start) (gEnd q a o a.length, 0)) (0 : Int) = some (.inl ()) := by
      have hh := iter_go (step := G.l_FnGlue.s4 (a, o, (q : Int)) (O.map fun t => [t.press, t.begin, t.end_]) (O.map Tglued.start) (gEnd q a o a.length, 0)) (n := a.length) (A := Unit) (g := fun _ => ()) (fun k _ => (k : Int)) (fun _ _ => True) (fun _ => False) ?_ ?_ a.length 0 () (by omega) trivial
      · rcases hh with ⟨_, _, h⟩ | ⟨r, hr, _⟩
        · exact h
        · exact hr.elim
      · rintro i _ hi _
        obtain ⟨j, hj, p1, b1, f1, s1, g1, o1, t1, t2, t3, t4⟩ := facts i hi
        have hf := gTm_facts hq ht hor (i := j) (by omega)
        have hfin := fin_le (p := q) (a := a) (o := o) (i := j) (n := a.length) hj
        have ri := hRb i hi
        unfold bondR at ri
        rw [g1] at hf
        have hz1 := hZ i hi
        exact .inl ⟨(), s4_step _ _ _ _ i _ _ _ (by omega) (by omega) (by omega) (by show a.length = _; omega) (hY i hi) (by omega) (by omega) (by show 0 ≤ (a.getD i default).Spread ∧ (a.getD i default).Spread ≤ 1000; omega) (by show 0 ≤ (a.getD i default).Open ∧ (a.getD i default).Open ≤ 1000; omega) (by show 0 ≤ (a.getD i default).Press ∧ (a.getD i default).Press ≥ 0 ∧ (a.getD i default).Press ≤ 10000; omega)
          (by omega) (by show _ < (q : Int); omega) (by show _ = _ + (a.getD i default).Press; omega) (by show _ + (a.getD i default).Spread ≤ _; omega) (by show _ ≤ _ + (a.getD i default).Open; omega) (by show _ ≤ gEnd q a o a.length; omega) (inner i hi), trivial⟩
      · rintro _ _
        have hd : decide (((a.length : Nat) : Int) < (((O.map fun t => [t.press, t.begin, t.end_]).length : Nat) : Int)) = false := decide_eq_false (by omega)
        simp only [G.l_FnGlue.s4, hd, cond_false]
    have dl : decide (gEnd q a o a.length < low) = false := decide_eq_false (by omega)
    simp only [e1, Option.bind_some, onO, e2, e3, e4, decide_true, cond_true, Bool.not_true, cond_false, dl, hlY, hlZ, outer, jn, Sum.elim_inl]
end Go.Proofs.Ytnhgffhnfegiiaa.Fw
namespace Go.Proofs.Ytnhgffhnfegiiaa.Fw
open Go.RowKit
theorem ret_FnGlue (nl : Bool) (rows : List (List CV)) (hl : rows.length ≤ 9223372036854775807) (_ : nl = true → rows = []) (hr : ∀ r ∈ rows, Okl [.int .u8] r) : Ret Try.prog 10 none [.c (.sl nl false 1 rows)] [] (.c (.v (.bool true))) := by
  obtain ⟨a, rfl, ha⟩ := bytes_in hr
  exact Ret.args (by simp [AV.lo]) (AWkL.cons (AWk.c CWk.sl) AWkL.nil) (ret_l_FnGlue a (law_Glue a ha))
end Go.Proofs.Ytnhgffhnfegiiaa.Fw
