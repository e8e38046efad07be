/- What the functions without memory come to. No condition. -/
import Derived.Test.YtnhgffhnfegiiaaDoorGVma
import Derived.Test.YtnhgffhnfegiiaaDoorFwGf
import Derived.Test.YtnhgffhnfegiiaaDoorFwZb
namespace Go.Proofs.YtnhgffhnfegiiaaDoor.Fw
open Go.RowKit
set_option linter.unusedVariables false
set_option linter.unusedSimpArgs false
theorem all_getD {a b : List Int} (hl : a.length = b.length) : ((List.range' 0 a.length).all fun i => decide (a.getD i default = b.getD i default)) = decide (a = b) := by
  rw [Bool.eq_iff_iff, List.all_eq_true, decide_eq_true_eq]
  constructor
  · intro h
    refine List.ext_getElem hl fun i h1 h2 => ?_
    have := h i (by simp [List.mem_range'_1]; exact h1)
    simpa [List.getD_eq_getElem?_getD, h1, h2] using this
  · rintro rfl i _
    simp
end Go.Proofs.YtnhgffhnfegiiaaDoor.Fw
namespace Go.Proofs.YtnhgffhnfegiiaaDoor.Fw
open Go.RowKit
set_option linter.unusedVariables false
set_option linter.unusedSimpArgs false
def inR (n lo hi : Int) : Bool := decide (lo ≤ n) && decide (n ≤ hi)
theorem p_within (n lo hi : Int) : G.i_within n lo hi = some (inR n lo hi) := by
  unfold G.i_within inR; cases decide (lo ≤ n) <;> rfl
theorem p_l00In (n lo hi : Int) : G.s_l00In n lo hi = some (inR n lo hi) := by
  unfold G.s_l00In inR; cases decide (lo ≤ n) <;> rfl
theorem p_l01Small (c : Int) : G.s_l01Small c = some (inR c 97 122) := by
  unfold G.s_l01Small inR; cases decide (97 ≤ c) <;> rfl
theorem p_l01Digit (c : Int) : G.s_l01Digit c = some (inR c 48 57) := by
  unfold G.s_l01Digit inR; cases decide (48 ≤ c) <;> rfl
theorem all_getDL {α : Type} [Inhabited α] [DecidableEq α] {a b : List α} (hl : a.length = b.length) : ((List.range' 0 a.length).all fun i => decide (a.getD i default = b.getD i default)) = decide (a = b) := by
  rw [Bool.eq_iff_iff, List.all_eq_true, decide_eq_true_eq]
  constructor
  · intro h
    refine List.ext_getElem hl fun i h1 h2 => ?_
    have := h i (by simp [List.mem_range'_1]; exact h1)
    simpa [List.getD_eq_getElem?_getD, h1, h2] using this
  · rintro rfl i _
    simp
theorem makeOk_of {n : Nat} {b : Nat} (h : n ≤ 1048576) (hb : b ≤ 1000) : makeOk (n : Int) (n : Int) b := by
  unfold makeOk
  have h1 : n * b ≤ 1048576 * 1000 := Nat.mul_le_mul h hb
  have h2 : (b : Int) * (n : Int) = ((n * b : Nat) : Int) := by rw [Int.natCast_mul, Int.mul_comm]
  refine ⟨?_, ?_, ?_, ?_⟩ <;> omega
end Go.Proofs.YtnhgffhnfegiiaaDoor.Fw
namespace Go.Proofs.YtnhgffhnfegiiaaDoor.Fw
open Go.RowKit
set_option linter.unusedVariables false
set_option linter.unusedSimpArgs false
end Go.Proofs.YtnhgffhnfegiiaaDoor.Fw
namespace Go.Proofs.YtnhgffhnfegiiaaDoor.Fw
open Go.RowKit
set_option linter.unusedVariables false
set_option linter.unusedSimpArgs false
theorem p_toLoss (x : TLoss) : G.l_toLoss x.Name x.Veneer.Species x.Veneer.Shade x.Veneer.Grain x.Area x.Priority x.Cost x.Minutes = some x := rfl
def smallLoss (x : TLoss) : Prop := x.Name.size ≤ 9223372036854775807 ∧ x.Veneer.Species.size ≤ 9223372036854775807
theorem p_szLoss (x : TLoss) (h : smallLoss x) (left : Int) (h1 : 0 ≤ left) (h2 : left ≤ 1048576) : ∃ q, G.l_szLoss x.Name x.Veneer.Species x.Veneer.Shade x.Veneer.Grain x.Area x.Priority x.Cost x.Minutes left = some q ∧ q ≤ left := by
  obtain ⟨ha, hb⟩ := h
  unfold G.l_szLoss
  rw [wrap64 (by omega) (by omega)]
  by_cases c1 : left - (x.Name.size : Int) < 0
  · exact ⟨-1, by simp [c1], by omega⟩
  · rw [show decide (left - (x.Name.size : Int) < 0) = false from by simpa using c1]
    simp only [cond_false, G.l_szVeneer]
    rw [wrap64 (by omega) (by omega)]
    by_cases c2 : left - (x.Name.size : Int) - (x.Veneer.Species.size : Int) < 0
    · exact ⟨-1, by simp [c2], by omega⟩
    · exact ⟨left - (x.Name.size : Int) - (x.Veneer.Species.size : Int), by simp [c2], by omega⟩
end Go.Proofs.YtnhgffhnfegiiaaDoor.Fw
namespace Go.Proofs.YtnhgffhnfegiiaaDoor.Fw
open Go.RowKit
set_option linter.unusedVariables false
set_option linter.unusedSimpArgs false
end Go.Proofs.YtnhgffhnfegiiaaDoor.Fw
namespace Go.Proofs.YtnhgffhnfegiiaaDoor.Fw
open Go.RowKit
set_option linter.unusedVariables false
set_option linter.unusedSimpArgs false
def chOk (c : Int) : Bool := inR c 97 122 || inR c 48 57
def nameOk (s : ByteArray) : Bool := !(decide (s.size = 0) || decide ((10 : Int) < ((s.size : Nat) : Int))) && (inR (byteAt s 0) 97 122 && (List.range' 0 s.size).all fun i => chOk (byteAt s i))
theorem p_l01Name (s : ByteArray) (hs : s.size ≤ 9223372036854775807) : G.s_l01Name s = some (nameOk s) := by
  have hit : iter (G.s_l01Name.s0 s) 0 = some (if (List.range' 0 s.size).all (fun i => chOk (byteAt s i)) then .inl () else .inr false) := by
    refine iter_scan (step := G.s_l01Name.s0 s) (n := s.size) (p := fun i => chOk (byteAt s i)) (v := ()) (r := false) ?_ ?_ s.size 0 (by omega)
    · intro i hi
      have h1 : decide ((i : Int) < ((s.size : Nat) : Int)) = true := by simp; omega
      have hc : 0 ≤ (i : Int) ∧ (i : Int) < ((s.size : Nat) : Int) := ⟨by omega, by omega⟩
      simp only [G.s_l01Name.s0, h1, cond_true, if_pos hc, p_l01Small, p_l01Digit, Int.toNat_natCast, Option.bind_some, chOk]
      rw [wrap64 (by omega) (by omega)]
      rcases Bool.eq_false_or_eq_true (inR (byteAt s i) 97 122) with h5 | h5 <;> rcases Bool.eq_false_or_eq_true (inR (byteAt s i) 48 57) with h6 | h6 <;> simp [h5, h6]
    · have h1 : decide (((s.size : Nat) : Int) < ((s.size : Nat) : Int)) = false := by simp
      simp only [G.s_l01Name.s0, h1, cond_false]
  unfold G.s_l01Name nameOk
  rw [hit]
  by_cases c0 : s.size = 0
  · simp [c0]
  · by_cases c1 : (10 : Int) < ((s.size : Nat) : Int)
    · simp [c0, c1]
    · have hc : 0 ≤ (0 : Int) ∧ (0 : Int) < ((s.size : Nat) : Int) := ⟨by omega, by omega⟩
      simp only [c0, c1, decide_false, cond_false, Option.bind_some, if_pos hc, p_l01Small, Bool.or_self, Bool.not_false, Bool.true_and]
      cases inR (byteAt s 0) 97 122
      · rfl
      · cases (List.range' 0 s.size).all fun i => chOk (byteAt s i) <;> rfl
theorem lt_not (a b : Int) : decide (a < b) = !decide (b ≤ a) := by
  by_cases h : a < b
  · simp [h, Int.not_le.2 h]
  · simp [h, Int.not_lt.1 h]
theorem p_IsName (s : ByteArray) (hs : s.size ≤ 9223372036854775807) : G.i_IsName s = some (nameOk s) := by
  have hit : iter (G.i_IsName.s0 s) 0 = some (if (List.range' 0 s.size).all (fun i => chOk (byteAt s i)) then .inl () else .inr false) := by
    refine iter_scan (step := G.i_IsName.s0 s) (n := s.size) (p := fun i => chOk (byteAt s i)) (v := ()) (r := false) ?_ ?_ s.size 0 (by omega)
    · intro i hi
      have h1 : decide ((i : Int) < ((s.size : Nat) : Int)) = true := by simp; omega
      have hc : 0 ≤ (i : Int) ∧ (i : Int) < ((s.size : Nat) : Int) := ⟨by omega, by omega⟩
      simp only [G.i_IsName.s0, h1, cond_true, if_pos hc, Int.toNat_natCast, Option.bind_some, chOk, inR]
      rw [wrap64 (by omega) (by omega), lt_not (byteAt s i) 97, lt_not 122 (byteAt s i), lt_not (byteAt s i) 48, lt_not 57 (byteAt s i)]
      by_cases h5 : 97 ≤ byteAt s i <;> by_cases h6 : byteAt s i ≤ 122 <;> by_cases h7 : 48 ≤ byteAt s i <;> by_cases h8 : byteAt s i ≤ 57 <;> simp [h5, h6, h7, h8]
    · have h1 : decide (((s.size : Nat) : Int) < ((s.size : Nat) : Int)) = false := by simp
      simp only [G.i_IsName.s0, h1, cond_false]
  unfold G.i_IsName nameOk
  rw [hit]
  by_cases c0 : s.size = 0
  · simp [c0]
  · by_cases c1 : (10 : Int) < ((s.size : Nat) : Int)
    · have c2 : ¬ ((s.size : Nat) : Int) < 1 := by omega
      simp [c0, c1, c2]
    · have hc : 0 ≤ (0 : Int) ∧ (0 : Int) < ((s.size : Nat) : Int) := ⟨by omega, by omega⟩
      have c2 : ¬ ((s.size : Nat) : Int) < 1 := by omega
      simp only [c0, c1, c2, decide_false, cond_false, Option.bind_some, if_pos hc, Bool.or_self, Bool.not_false, Bool.true_and, inR, lt_not (byteAt s 0) 97, lt_not 122 (byteAt s 0)]
      cases decide (97 ≤ byteAt s 0) <;> cases decide (byteAt s 0 ≤ 122) <;> cases (List.range' 0 s.size).all fun i => chOk (byteAt s i) <;> rfl
end Go.Proofs.YtnhgffhnfegiiaaDoor.Fw
namespace Go.Proofs.YtnhgffhnfegiiaaDoor.Fw
open Go.RowKit
set_option linter.unusedVariables false
set_option linter.unusedSimpArgs false
def names : List ByteArray := [(⟨#[97, 115, 104]⟩ : ByteArray), (⟨#[98, 101, 101, 99, 104]⟩ : ByteArray), (⟨#[98, 105, 114, 99, 104]⟩ : ByteArray), (⟨#[99, 104, 101, 114, 114, 121]⟩ : ByteArray), (⟨#[101, 98, 111, 110, 121]⟩ : ByteArray), (⟨#[104, 111, 108, 108, 121]⟩ : ByteArray), (⟨#[109, 97, 112, 108, 101]⟩ : ByteArray), (⟨#[111, 97, 107]⟩ : ByteArray), (⟨#[114, 111, 115, 101, 119, 111, 111, 100]⟩ : ByteArray), (⟨#[119, 97, 108, 110, 117, 116]⟩ : ByteArray)]
theorem f_step (n : ByteArray) (i : Nat) (hi : i < 10) : G.s_l07Find.s0 n names (i : Int) = if decide (names.getD i default = n) = true then some (.inr (.inr (i : Int))) else some (.inl ((i + 1 : Nat) : Int)) := by
  have h1 : decide ((i : Int) < ((names.length : Nat) : Int)) = true := by simp [names]; omega
  have hc : 0 ≤ (i : Int) ∧ (i : Int) < ((names.length : Nat) : Int) := ⟨by omega, by simp [names]; omega⟩
  simp only [G.s_l07Find.s0, h1, cond_true, if_pos hc, Int.toNat_natCast]
  rw [wrap64 (by omega) (by omega)]
  by_cases h : names.getD i default = n
  · simp only [h, decide_true, cond_true, if_true]
  · simp only [h, decide_false, cond_false, Bool.false_eq_true, if_false]
    rfl
theorem f_end (n : ByteArray) : G.s_l07Find.s0 n names ((10 : Nat) : Int) = some (.inr (.inl ())) := rfl
/-- The place of a name. -/
def findN (n : ByteArray) : Nat → Nat → Int
  | 0, _ => -1
  | m + 1, k => if names.getD k default = n then (k : Int) else findN n m (k + 1)
theorem f_iter (n : ByteArray) : ∀ (m k : Nat), k + m = 10 → iter (G.s_l07Find.s0 n names) (k : Int) = some (if findN n m k = -1 then .inl () else .inr (findN n m k)) := by
  intro m
  induction m with
  | zero =>
    intro k hk
    have : k = 10 := by omega
    subst this
    rw [iter_inr (f_end n)]
    simp [findN]
  | succ m ih =>
    intro k hk
    have h1 := f_step n k (by omega)
    by_cases h : names.getD k default = n
    · rw [if_pos (by simpa using h)] at h1
      rw [iter_inr h1]
      have : ¬ (k : Int) = -1 := by omega
      simp only [findN, if_pos h, if_neg this]
    · rw [if_neg (by simpa using h)] at h1
      rw [iter_inl h1, ih (k + 1) (by omega)]
      simp only [findN, if_neg h]
theorem p_l07Find (n : ByteArray) : G.s_l07Find n = some (findN n 10 0) := by
  unfold G.s_l07Find
  have h : G.s_l07Names = some names := rfl
  rw [h]
  show jn (iter (G.s_l07Find.s0 n names) ((0 : Nat) : Int)) _ = _
  rw [f_iter n 10 0 rfl]
  by_cases h : findN n 10 0 = -1
  · rw [if_pos h, h]; rfl
  · rw [if_neg h]; rfl
end Go.Proofs.YtnhgffhnfegiiaaDoor.Fw
namespace Go.Proofs.YtnhgffhnfegiiaaDoor.Fw
open Go.RowKit
set_option linter.unusedVariables false
set_option linter.unusedSimpArgs false
/-- What is told of a species: its shade and whether it is one. -/
theorem species (n : ByteArray) : (∃ k : Nat, k < 10 ∧ n = names.getD k default ∧ findN n 10 0 = (k : Int)) ∨ (findN n 10 0 = -1 ∧ ∀ k : Nat, k < 10 → n ≠ names.getD k default) := by
  have main : ∀ m k, k + m = 10 → (∃ j : Nat, k ≤ j ∧ j < 10 ∧ n = names.getD j default ∧ findN n m k = (j : Int)) ∨ (findN n m k = -1 ∧ ∀ j : Nat, k ≤ j → j < 10 → n ≠ names.getD j default) := by
    intro m
    induction m with
    | zero => intro k hk; exact .inr ⟨rfl, fun j h1 h2 => by omega⟩
    | succ m ih =>
      intro k hk
      by_cases h : names.getD k default = n
      · exact .inl ⟨k, Nat.le_refl _, by omega, h.symm, by simp only [findN, if_pos h]⟩
      · rcases ih (k + 1) (by omega) with ⟨j, h1, h2, h3, h4⟩ | ⟨h1, h2⟩
        · exact .inl ⟨j, by omega, h2, h3, by simp only [findN, if_neg h]; exact h4⟩
        · refine .inr ⟨by simp only [findN, if_neg h]; exact h1, fun j h3 h4 => ?_⟩
          by_cases e : j = k
          · subst e; exact fun hc => h hc.symm
          · exact h2 j (by omega) h4
  rcases main 10 0 rfl with ⟨j, _, h2, h3, h4⟩ | ⟨h1, h2⟩
  · exact .inl ⟨j, h2, h3, h4⟩
  · exact .inr ⟨h1, fun k hk => h2 k (Nat.zero_le _) hk⟩
def veneerB (c sh gr : Int) : Bool := inR sh 0 100 && inR sh (c - 15) (c + 15) && inR gr 0 179
theorem v_impl (n : ByteArray) (sh gr c x y : Int) (hsh : -9223372036854775808 ≤ sh ∧ sh ≤ 9223372036854775807) (hc : 0 ≤ c ∧ c ≤ 100) (h : G.i_SpeciesData n = some (c, x, y, 0)) : G.i_ValidVeneer n sh gr = some (veneerB c sh gr) := by
  have hi : -1000000 ≤ sh ∧ sh ≤ 1000000 → inR (IntKind.wrap .i64 (sh - c)) (-15) 15 = inR sh (c - 15) (c + 15) := fun h => by
    rw [wrap64 (by omega) (by omega)]
    unfold inR
    rw [Bool.eq_iff_iff]
    simp only [Bool.and_eq_true, decide_eq_true_eq]
    omega
  simp only [G.i_ValidVeneer, G.i_speciesShade, h, Option.bind_some, decide_true, cond_true, p_within, veneerB]
  rcases Bool.eq_false_or_eq_true (inR sh 0 100) with h0 | h0
  · rw [h0, hi (by simp only [inR, Bool.and_eq_true, decide_eq_true_eq] at h0; omega)]
    cases inR sh (c - 15) (c + 15) <;> cases inR gr 0 179 <;> rfl
  · rw [h0]
    rfl
theorem v_spec (n : ByteArray) (sh gr c : Int) (k : Nat) (hk : k < 10) (hc : 0 ≤ c ∧ c ≤ 100) (hf : findN n 10 0 = (k : Int)) (t : List (List Int)) (ht : G.s_l07Table = some t) (hl : t.length = 10) (hr : ∃ a b, t.getD k default = [c, a, b]) : G.s_l07Ok n sh gr = some (veneerB c sh gr) := by
  obtain ⟨a, b, hr⟩ := hr
  have h0 : decide ((k : Int) < 0) = false := by simp
  have h1 : 0 ≤ (k : Int) ∧ (k : Int) < ((t.length : Nat) : Int) := ⟨by omega, by omega⟩
  have hw1 : IntKind.wrap .i64 (c - 15) = c - 15 := wrap64 (by omega) (by omega)
  have hw2 : IntKind.wrap .i64 (c + 15) = c + 15 := wrap64 (by omega) (by omega)
  simp only [G.s_l07Ok, p_l07Find, hf, Option.bind_some, h0, cond_false, p_l00In, ht, if_pos h1, Int.toNat_natCast, hr, G.s_l07Grain, veneerB]
  have h2 : (0 : Int) ≤ 0 ∧ (0 : Int) < (([c, a, b].length : Nat) : Int) := ⟨by omega, by simp⟩
  simp only [if_pos h2, List.getD_cons_zero, hw1, hw2, Option.bind_some]
  cases inR sh 0 100 <;> cases inR sh (c - 15) (c + 15) <;> cases inR gr 0 179 <;> rfl
theorem p_veneer3 (n : ByteArray) (sh gr : Int) (hsh : -9223372036854775808 ≤ sh ∧ sh ≤ 9223372036854775807) : ∃ b, G.s_l07Ok n sh gr = some b ∧ G.i_ValidVeneer n sh gr = some b ∧ (b = true → n.size ≤ 20 ∧ inR sh 0 100 = true ∧ inR gr 0 179 = true) := by
  rcases species n with ⟨k, hk, hn, hf⟩ | ⟨hf, hno⟩
  · have hcs : k = 0 ∨ k = 1 ∨ k = 2 ∨ k = 3 ∨ k = 4 ∨ k = 5 ∨ k = 6 ∨ k = 7 ∨ k = 8 ∨ k = 9 := by omega
    rcases hcs with rfl | rfl | rfl | rfl | rfl | rfl | rfl | rfl | rfl | rfl <;> subst hn <;> exact ⟨_, v_spec _ sh gr _ _ hk (by constructor <;> decide) hf _ rfl rfl ⟨_, _, rfl⟩, v_impl _ sh gr _ _ _ hsh (by constructor <;> decide) rfl, fun h => ⟨by decide, by simp only [veneerB, Bool.and_eq_true] at h; exact ⟨h.1.1, h.2⟩⟩⟩
  · refine ⟨false, ?_, ?_, fun h => by cases h⟩
    · simp only [G.s_l07Ok, p_l07Find, hf, Option.bind_some]
      rfl
    · have e : ∀ k : Nat, k < 10 → decide (n = names.getD k default) = false := fun k hk => by simpa using hno k hk
      have h : G.i_speciesShade n = some (0, false) := by
        simp only [G.i_speciesShade, G.i_SpeciesData]
        have e0 := e 0 (by omega); have e1 := e 1 (by omega); have e2 := e 2 (by omega); have e3 := e 3 (by omega); have e4 := e 4 (by omega)
        have e5 := e 5 (by omega); have e6 := e 6 (by omega); have e7 := e 7 (by omega); have e8 := e 8 (by omega); have e9 := e 9 (by omega)
        simp only [names, List.getD_cons_zero, List.getD_cons_succ] at e0 e1 e2 e3 e4 e5 e6 e7 e8 e9
        simp only [e0, e1, e2, e3, e4, e5, e6, e7, e8, e9, cond_false]
        rfl
      simp only [G.i_ValidVeneer, h, Option.bind_some]
      rfl
theorem p_veneer (n : ByteArray) (sh gr : Int) (hsh : -9223372036854775808 ≤ sh ∧ sh ≤ 9223372036854775807) : ∃ b, G.s_l07Ok n sh gr = some b ∧ G.i_ValidVeneer n sh gr = some b := by
  obtain ⟨b, h1, h2, _⟩ := p_veneer3 n sh gr hsh
  exact ⟨b, h1, h2⟩
end Go.Proofs.YtnhgffhnfegiiaaDoor.Fw
namespace Go.Proofs.YtnhgffhnfegiiaaDoor.Fw
open Go.RowKit
set_option linter.unusedVariables false
set_option linter.unusedSimpArgs false
def fitLoss (x : TLoss) : Prop := smallLoss x ∧ -9223372036854775808 ≤ x.Veneer.Shade ∧ x.Veneer.Shade ≤ 9223372036854775807
structure lossGood (x : TLoss) : Prop where
  name : nameOk x.Name = true
  spec : x.Veneer.Species.size ≤ 20
  shade : inR x.Veneer.Shade 0 100 = true
  grain : inR x.Veneer.Grain 0 179 = true
  area : inR x.Area 1 400000000 = true
  pri : inR x.Priority 1 9 = true
  cost : inR x.Cost 0 1000000 = true
  mins : inR x.Minutes 0 10000 = true
  ven : G.i_ValidVeneer x.Veneer.Species x.Veneer.Shade x.Veneer.Grain = some true
theorem p_lossOne3 (x : TLoss) (hx : fitLoss x) : ∃ b, G.s_l25One x.Name x.Veneer.Species x.Veneer.Shade x.Veneer.Grain x.Area x.Priority x.Cost x.Minutes = some b ∧ G.i_ValidLoss x.Name x.Veneer.Species x.Veneer.Shade x.Veneer.Grain x.Area x.Priority x.Cost x.Minutes = some b ∧ (b = true → lossGood x) := by
  obtain ⟨⟨h1, h2⟩, h3⟩ := hx
  obtain ⟨v, hv1, hv2, hv3⟩ := p_veneer3 x.Veneer.Species x.Veneer.Shade x.Veneer.Grain h3
  refine ⟨nameOk x.Name && v && inR x.Area 1 400000000 && inR x.Priority 1 9 && inR x.Cost 0 1000000 && inR x.Minutes 0 10000, ?_, ?_, ?_⟩
  · simp only [G.s_l25One, p_l01Name x.Name h1, hv1, p_l00In, Option.bind_some]
    cases nameOk x.Name <;> cases v <;> cases inR x.Area 1 400000000 <;> cases inR x.Priority 1 9 <;> cases inR x.Cost 0 1000000 <;> cases inR x.Minutes 0 10000 <;> rfl
  · simp only [G.i_ValidLoss, p_IsName x.Name h1, hv2, p_within, Option.bind_some]
    cases nameOk x.Name <;> cases v <;> cases inR x.Area 1 400000000 <;> cases inR x.Priority 1 9 <;> cases inR x.Cost 0 1000000 <;> cases inR x.Minutes 0 10000 <;> rfl
  · intro h
    simp only [Bool.and_eq_true] at h
    obtain ⟨e1, e2, e3⟩ := hv3 h.1.1.1.1.2
    exact ⟨h.1.1.1.1.1, e1, e2, e3, h.1.1.1.2, h.1.1.2, h.1.2, h.2, by rw [hv2, h.1.1.1.1.2]⟩
theorem p_lossOne (x : TLoss) (hx : fitLoss x) : ∃ b, G.s_l25One x.Name x.Veneer.Species x.Veneer.Shade x.Veneer.Grain x.Area x.Priority x.Cost x.Minutes = some b ∧ G.i_ValidLoss x.Name x.Veneer.Species x.Veneer.Shade x.Veneer.Grain x.Area x.Priority x.Cost x.Minutes = some b ∧ (b = true → inR x.Priority 1 9 = true ∧ inR x.Cost 0 1000000 = true) := by
  obtain ⟨b, h1, h2, h3⟩ := p_lossOne3 x hx
  exact ⟨b, h1, h2, fun h => ⟨(h3 h).pri, (h3 h).cost⟩⟩
theorem fit_get {a : List TLoss} (ha : ∀ x ∈ a, fitLoss x) {i : Nat} (hi : i < a.length) : fitLoss (a.getD i default) := by
  rw [List.getD_eq_getElem?_getD, List.getElem?_eq_getElem hi, Option.getD_some]
  exact ha _ (List.getElem_mem hi)
end Go.Proofs.YtnhgffhnfegiiaaDoor.Fw
namespace Go.Proofs.YtnhgffhnfegiiaaDoor.Fw
open Go.RowKit
set_option linter.unusedVariables false
set_option linter.unusedSimpArgs false
/-- Decimal digits, the last one first. -/
def revD (u : Nat) : List Int := if h : u = 0 then [] else (48 + ((u % 10 : Nat) : Int)) :: revD (u / 10)
termination_by u
decreasing_by omega
theorem revD_zero : revD 0 = [] := by unfold revD; simp
theorem revD_pos {u : Nat} (h : u ≠ 0) : revD u = (48 + ((u % 10 : Nat) : Int)) :: revD (u / 10) := by
  rw [revD]; simp [h]
theorem revD_len (u : Nat) : (revD u).length ≤ u := by
  induction u using Nat.strongRecOn with
  | ind u ih =>
    by_cases h : u = 0
    · subst h; simp [revD_zero]
    · rw [revD_pos h, List.length_cons]
      have := ih (u / 10) (by omega)
      omega
def u8 (d : Int) : UInt8 := UInt8.ofNat d.toNat
theorem bytesU_eq (xs : List Int) : bytesU xs = xs.map u8 := rfl
theorem dec_rev (u : Nat) (h : u ≠ 0) : Go.Lib.decDigits u = ((revD u).map u8).reverse := by
  induction u using Nat.strongRecOn with
  | ind u ih =>
    rw [Go.Lib.decDigits, revD_pos h]
    by_cases c : u < 10
    · have h0 : u / 10 = 0 := by omega
      have h1 : u % 10 = u := by omega
      rw [dif_pos c, h0, revD_zero, h1]
      have : (48 + (u : Int)).toNat = 48 + u := by omega
      simp only [List.map_cons, List.map_nil, List.reverse_cons, List.reverse_nil, List.nil_append, u8, this]
    · rw [dif_neg c, ih (u / 10) (by omega) (by omega)]
      simp only [List.map_cons, List.reverse_cons]
      congr 1
theorem dec_len (u : Nat) : (Go.Lib.decDigits u).length ≤ u + 1 := by
  by_cases h : u = 0
  · subst h; rw [Go.Lib.decDigits]; simp
  · rw [dec_rev u h]
    have := revD_len u
    simp only [List.length_reverse, List.length_map]
    omega
theorem itoa_len (n : Int) : (Go.Lib.itoa n).length ≤ n.natAbs + 2 := by
  unfold Go.Lib.itoa
  split
  · have := dec_len n.natAbs; simp only [List.length_cons]; omega
  · have := dec_len n.toNat; omega
theorem digits_loop : ∀ (k : Nat) (m : Int) (ds : List Int), m.natAbs ≤ k → m.natAbs ≤ 10000000000000 → ds.length + m.natAbs ≤ 20000000000000 → iter G.s_l01Dec.s0 (ds, m) = some (.inl (ds ++ revD m.natAbs)) := by
  intro k
  induction k with
  | zero =>
    intro m ds hk hm hl
    have : m = 0 := by omega
    subst this
    rw [iter_inr (r := .inl ds) rfl]
    simp [revD_zero]
  | succ k ih =>
    intro m ds hk hm hl
    by_cases h0 : m = 0
    · subst h0
      rw [iter_inr (r := .inl ds) rfl]
      simp [revD_zero]
    · have hna : m.natAbs ≠ 0 := by omega
      have hmod : ∃ d : Int, (bif (decide ((m.tmod (10 : Int)) < (0 : Int))) then (some (IntKind.wrap .i64 (0 - (m.tmod (10 : Int))))) else (some (m.tmod (10 : Int)))) = some d ∧ d = ((m.natAbs % 10 : Nat) : Int) := by
        rcases Int.lt_or_lt_of_ne h0 with hneg | hpos
        · obtain ⟨u, rfl⟩ : ∃ u : Nat, m = -(u : Int) := ⟨m.natAbs, by omega⟩
          have e : (-(u : Int)).tmod 10 = -((u % 10 : Nat) : Int) := by rw [Int.neg_tmod, Int.tmod_eq_emod_of_nonneg (by omega)]; omega
          rw [e]
          by_cases c : -((u % 10 : Nat) : Int) < 0
          · rw [decide_eq_true c]
            exact ⟨_, rfl, by rw [wrap64 (by omega) (by omega)]; omega⟩
          · rw [decide_eq_false c]
            exact ⟨_, rfl, by omega⟩
        · have e : m.tmod 10 = ((m.natAbs % 10 : Nat) : Int) := by rw [Int.tmod_eq_emod_of_nonneg (by omega)]; omega
          rw [e, decide_eq_false (by omega)]
          exact ⟨_, rfl, rfl⟩
      obtain ⟨d, hd, rfl⟩ := hmod
      have hdiv : (m.tdiv 10).natAbs = m.natAbs / 10 := by rw [Int.natAbs_tdiv]; rfl
      have hw : IntKind.wrap .i64 (m.tdiv 10) = m.tdiv 10 := wrap64 (by omega) (by omega)
      have hw2 : IntKind.wrap .i64 ((48 : Int) + ((m.natAbs % 10 : Nat) : Int)) = 48 + ((m.natAbs % 10 : Nat) : Int) := wrap64 (by omega) (by omega)
      have hw3 : IntKind.wrap .u8 ((48 : Int) + ((m.natAbs % 10 : Nat) : Int)) = 48 + ((m.natAbs % 10 : Nat) : Int) := by
        show ((48 : Int) + ((m.natAbs % 10 : Nat) : Int)) % 256 = _
        omega
      have hs : G.s_l01Dec.s0 (ds, m) = some (.inl (ds ++ [48 + ((m.natAbs % 10 : Nat) : Int)], m.tdiv 10)) := by
        simp only [G.s_l01Dec.s0, decide_eq_false h0, cond_false, hd, Option.bind_some, hw, hw2, hw3]
        rw [if_pos ⟨by omega, by omega⟩]
      rw [iter_inl hs, ih (m.tdiv 10) _ (by omega) (by omega) (by simp only [List.length_append, List.length_cons, List.length_nil]; omega), hdiv, revD_pos hna]
      simp
theorem rev_loop (q : List Int) (hq : q.length ≤ 100000000000000) : iter (G.s_l01Dec.s1 q) (([] : List Int), (q.length : Int) - 1) = some (.inl q.reverse) := by
  have hh := iter_go (step := G.s_l01Dec.s1 q) (n := q.length) (A := Unit) (g := fun _ => q.reverse) (fun i _ => (q.reverse.take i, (q.length : Int) - 1 - (i : Int))) (fun _ _ => True) (fun _ => False) ?_ ?_ q.length 0 () (by omega) trivial
  · rcases hh with ⟨_, _, h⟩ | ⟨r, hr, _⟩
    · simpa using h
    · exact hr.elim
  · rintro i _ hi _
    have hd : decide ((0 : Int) ≤ (q.length : Int) - 1 - (i : Int)) = true := decide_eq_true (by omega)
    have hw : IntKind.wrap .i64 ((q.length : Int) - 1 - (i : Int) - 1) = (q.length : Int) - 1 - ((i + 1 : Nat) : Int) := by rw [wrap64 (by omega) (by omega)]; omega
    have hn : ((q.length : Int) - 1 - (i : Int)).toNat = q.length - 1 - i := by omega
    have hl : (q.reverse.take i).length ≤ i := by rw [List.length_take]; omega
    refine .inl ⟨(), ?_, trivial⟩
    simp only [G.s_l01Dec.s1, hd, cond_true, hw, hn]
    rw [if_pos ⟨by omega, by omega⟩, if_pos ⟨by omega, by omega⟩]
    have e : q.getD (q.length - 1 - i) default = q.reverse.getD i default := by
      simp only [List.getD_eq_getElem?_getD]
      rw [List.getElem?_reverse (by omega)]
    rw [e, List.take_succ_eq_append_getElem (by simpa using hi), List.getD_eq_getElem?_getD, List.getElem?_eq_getElem (by simpa using hi), Option.getD_some]
  · rintro _ _
    have hd : decide ((0 : Int) ≤ (q.length : Int) - 1 - (q.length : Int)) = false := decide_eq_false (by omega)
    simp only [G.s_l01Dec.s1, hd, cond_false]
    rw [List.take_of_length_le (by simp)]
theorem p_l01Dec (n : Int) (h : n.natAbs ≤ 10000000000000) : G.s_l01Dec n = some ⟨(Go.Lib.itoa n).toArray⟩ := by
  unfold G.s_l01Dec
  by_cases h0 : n = 0
  · subst h0
    have : Go.Lib.itoa 0 = [48] := by
      show (if (0 : Int) < 0 then _ else Go.Lib.decDigits 0) = _
      rw [if_neg (by omega), Go.Lib.decDigits]
      rfl
    rw [this]
    rfl
  · rw [decide_eq_false h0, cond_false, digits_loop n.natAbs n [] (Nat.le_refl _) h (by rw [List.length_nil]; omega)]
    have hl := revD_len n.natAbs
    have hna : n.natAbs ≠ 0 := by omega
    simp only [jn, Option.bind_some, Sum.elim_inl, List.nil_append]
    by_cases hneg : n < 0
    · rw [decide_eq_true hneg, cond_true, if_pos ⟨by omega, by omega⟩]
      have hw : IntKind.wrap .i64 ((((revD n.natAbs ++ [(45 : Int)]).length : Nat) : Int) - 1) = (((revD n.natAbs ++ [(45 : Int)]).length : Nat) : Int) - 1 := wrap64 (by rw [List.length_append, List.length_cons, List.length_nil]; omega) (by rw [List.length_append, List.length_cons, List.length_nil]; omega)
      simp only [Option.bind_some, hw]
      rw [rev_loop _ (by simp; omega)]
      have : Go.Lib.itoa n = 45 :: Go.Lib.decDigits n.natAbs := by unfold Go.Lib.itoa; rw [if_pos hneg]
      simp only [Option.bind_some, Sum.elim_inl, bytesU_eq, this, dec_rev _ hna, List.reverse_append, List.map_append, List.map_reverse]
      rfl
    · rw [decide_eq_false hneg]
      have hw : IntKind.wrap .i64 ((((revD n.natAbs).length : Nat) : Int) - 1) = (((revD n.natAbs).length : Nat) : Int) - 1 := wrap64 (by omega) (by omega)
      simp only [cond_false, Option.bind_some, hw]
      rw [rev_loop _ (by omega)]
      have ht : n.toNat = n.natAbs := by omega
      have : Go.Lib.itoa n = Go.Lib.decDigits n.natAbs := by unfold Go.Lib.itoa; rw [if_neg hneg, ht]
      simp only [Option.bind_some, Sum.elim_inl, bytesU_eq, this, dec_rev _ hna, List.map_reverse]
end Go.Proofs.YtnhgffhnfegiiaaDoor.Fw
namespace Go.Proofs.YtnhgffhnfegiiaaDoor.Fw
open Go.RowKit
set_option linter.unusedVariables false
set_option linter.unusedSimpArgs false
theorem bapp (L M : List UInt8) : (⟨L.toArray⟩ : ByteArray) ++ ⟨M.toArray⟩ = ⟨(L ++ M).toArray⟩ := by
  apply ByteArray.ext
  simp
/-- The numbers' texts with a comma between. -/
def listL (l : List Int) : List UInt8 := Go.Lib.join (l.map Go.Lib.itoa) [44]
theorem listL_one (x : Int) : listL [x] = Go.Lib.itoa x := by simp [listL, Go.Lib.join, List.intercalate]
theorem join_snoc (xs : List (List UInt8)) (y sep : List UInt8) (h : xs ≠ []) : Go.Lib.join (xs ++ [y]) sep = Go.Lib.join xs sep ++ (sep ++ y) := by
  induction xs with
  | nil => exact absurd rfl h
  | cons x xs ih =>
    cases xs with
    | nil => simp [Go.Lib.join, List.intercalate, List.intersperse]
    | cons z zs =>
      have := ih (by simp)
      simp only [Go.Lib.join, List.intercalate, List.cons_append, List.intersperse, List.flatten_cons] at this ⊢
      rw [this]
      simp only [List.append_assoc]
theorem listL_snoc (l : List Int) (y : Int) (h : l ≠ []) : listL (l ++ [y]) = listL l ++ ([44] ++ Go.Lib.itoa y) := by
  unfold listL
  rw [List.map_append]
  exact join_snoc _ _ _ (by simpa using h)
def smallN (l : List Int) : Prop := ∀ i, i < l.length → -1000000000000 ≤ l.getD i default ∧ l.getD i default ≤ 1000000000000
theorem smallN.abs {l : List Int} (h : smallN l) {i : Nat} (hi : i < l.length) : (l.getD i default).natAbs ≤ 1000000000000 := by have := h i hi; omega
theorem take_snocI {l : List Int} {i : Nat} (hi : i < l.length) : l.take i ++ [l.getD i default] = l.take (i + 1) := by
  rw [List.take_succ_eq_append_getElem hi, List.getD_eq_getElem?_getD, List.getElem?_eq_getElem hi, Option.getD_some]
theorem listL_len {l : List Int} (h : smallN l) : ∀ i, i ≤ l.length → (listL (l.take i)).length ≤ i * 1000000000010 := by
  intro i
  induction i with
  | zero => intro _; simp [listL, Go.Lib.join, List.intercalate]
  | succ i ih =>
    intro hi
    have h1 := ih (by omega)
    have h2 := itoa_len (l.getD i default)
    have h3 := h.abs (i := i) (by omega)
    rw [← take_snocI (by omega)]
    by_cases c : l.take i = []
    · rw [c, List.nil_append, listL_one]; omega
    · rw [listL_snoc _ _ c]
      simp only [List.length_append, List.length_cons, List.length_nil]
      omega
theorem take_ne {l : List Int} {i : Nat} (h0 : 0 < i) (hi : i ≤ l.length) : l.take i ≠ [] := by
  intro h
  have := congrArg List.length h
  rw [List.length_take, List.length_nil] at this
  omega
theorem p_l01List (l : List Int) (h : smallN l) (hn : l.length ≤ 64) : G.s_l01List l = some (if l = [] then ⟨#[45]⟩ else ⟨(listL l).toArray⟩) := by
  unfold G.s_l01List
  by_cases h0 : l = []
  · subst h0; rfl
  · have hl0 : l.length ≠ 0 := by simpa using h0
    rw [decide_eq_false (by omega), cond_false, if_neg h0]
    have hh := iter_go (step := G.s_l01List.s0 l) (n := l.length) (A := Unit) (g := fun _ => (⟨(listL l).toArray⟩ : ByteArray)) (fun i _ => ((⟨(listL (l.take i)).toArray⟩ : ByteArray), (i : Int))) (fun _ _ => True) (fun _ => False) ?_ ?_ l.length 0 () (by omega) trivial
    · rcases hh with ⟨_, _, h⟩ | ⟨r, hr, _⟩
      · have h : iter (G.s_l01List.s0 l) ((⟨#[]⟩ : ByteArray), 0) = _ := h
        rw [h]
        rfl
      · exact hr.elim
    · rintro i _ hi _
      have hd : decide ((i : Int) < ((l.length : Nat) : Int)) = true := decide_eq_true (by omega)
      have hw : IntKind.wrap .i64 ((i : Int) + 1) = ((i + 1 : Nat) : Int) := by rw [wrap64 (by omega) (by omega)]; omega
      have hln := listL_len h i (by omega)
      have hsz : ∀ L : List UInt8, (⟨L.toArray⟩ : ByteArray).size = L.length := fun L => by simp [ByteArray.size]
      have hab := h.abs hi
      have hit := itoa_len (l.getD i default)
      refine .inl ⟨(), ?_, trivial⟩
      simp only [G.s_l01List.s0, hd, cond_true, Int.toNat_natCast, hw]
      by_cases c : 0 < i
      · have hc : decide ((0 : Int) < (i : Int)) = true := decide_eq_true (by omega)
        have hsnoc := listL_snoc (l.take i) (l.getD i default) (take_ne c (by omega))
        rw [take_snocI hi] at hsnoc
        have hb : (⟨(listL (l.take i)).toArray⟩ : ByteArray) ++ ⟨#[44]⟩ = ⟨(listL (l.take i) ++ [44]).toArray⟩ := bapp _ [44]
        simp only [hc, cond_true, hsz]
        rw [if_neg (by omega), hb]
        simp only [Option.bind_some]
        rw [if_pos ⟨by omega, by omega⟩, p_l01Dec _ (by omega)]
        simp only [Option.bind_some, hsz]
        rw [if_neg (by simp only [List.length_append, List.length_cons, List.length_nil]; omega), bapp, hsnoc, List.append_assoc]
      · have hi0 : i = 0 := by omega
        subst hi0
        have hc : decide ((0 : Int) < ((0 : Nat) : Int)) = false := rfl
        simp only [hc, cond_false, Option.bind_some]
        rw [if_pos ⟨by omega, by omega⟩, p_l01Dec _ (by omega)]
        simp only [Option.bind_some, hsz]
        rw [if_neg (by omega), bapp, ← take_snocI hi]
        simp only [List.take_zero, List.nil_append, listL_one]
        rfl
    · rintro _ _
      have hd : decide (((l.length : Nat) : Int) < ((l.length : Nat) : Int)) = false := by simp
      simp only [G.s_l01List.s0, hd, cond_false, List.take_length]
theorem p_ListText (l : List Int) (h : smallN l) (hn : l.length ≤ 64) : G.i_ListText l = some (if l = [] then ⟨#[45]⟩ else ⟨(listL l).toArray⟩) := by
  unfold G.i_ListText
  rw [decide_eq_false (by omega)]
  have h1 := iter_scan (step := G.i_ListText.s0 l) (n := l.length) (p := fun _ => true) (v := ()) (r := (⟨#[]⟩ : ByteArray)) ?_ ?_ l.length 0 (by omega)
  · have h1 : iter (G.i_ListText.s0 l) 0 = some (.inl ()) := by
      have : (List.range' 0 l.length).all (fun _ => true) = true := by simp
      rw [this] at h1
      exact h1
    rw [cond_false, h1]
    simp only [jn, Option.bind_some, Sum.elim_inl]
    by_cases h0 : l = []
    · subst h0; rfl
    · have hl0 : l.length ≠ 0 := by simpa using h0
      rw [decide_eq_false (by omega), cond_false, if_neg h0]
      have h2 := iter_go (step := G.i_ListText.s1 l) (n := l.length) (A := Unit) (g := fun _ => l.map fun n => (⟨(Go.Lib.itoa n).toArray⟩ : ByteArray)) (fun i _ => ((l.take i).map fun n => (⟨(Go.Lib.itoa n).toArray⟩ : ByteArray), (i : Int))) (fun _ _ => True) (fun _ => False) ?_ ?_ l.length 0 () (by omega) trivial
      · rcases h2 with ⟨_, _, h2⟩ | ⟨r, hr, _⟩
        · have h2 : iter (G.i_ListText.s1 l) ([], 0) = _ := h2
          rw [h2]
          have hm : (l.map fun n => (⟨(Go.Lib.itoa n).toArray⟩ : ByteArray)).map (·.data.toList) = l.map Go.Lib.itoa := by simp
          have hj : Go.Lib.join ((l.map fun n => (⟨(Go.Lib.itoa n).toArray⟩ : ByteArray)).map (·.data.toList)) (⟨#[44]⟩ : ByteArray).data.toList = listL l := by rw [hm]; rfl
          have hln := listL_len h l.length (Nat.le_refl _)
          rw [List.take_length] at hln
          simp only [Option.bind_some, Sum.elim_inl, G.strings_Join]
          rw [hj, if_pos ⟨by rw [List.length_map]; omega, by omega⟩]
          rfl
        · exact hr.elim
      · rintro i _ hi _
        have hd : decide ((i : Int) < ((l.length : Nat) : Int)) = true := decide_eq_true (by omega)
        have hw : IntKind.wrap .i64 ((i : Int) + 1) = ((i + 1 : Nat) : Int) := by rw [wrap64 (by omega) (by omega)]; omega
        have hi2 := h i hi
        have hl : (l.take i).length ≤ i := by rw [List.length_take]; omega
        have hdec : G.i_Decimal (l.getD i default) = some ⟨(Go.Lib.itoa (l.getD i default)).toArray⟩ := by
          simp only [G.i_Decimal, G.strconv_FormatInt]
          rw [if_pos (by refine ⟨?_, ?_, ?_⟩ <;> first | trivial | omega)]
          rfl
        refine .inl ⟨(), ?_, trivial⟩
        simp only [G.i_ListText.s1, hd, cond_true, Int.toNat_natCast, hw, hdec, Option.bind_some, List.length_map]
        rw [if_pos ⟨by omega, by omega⟩, if_pos ⟨by omega, by omega⟩, ← take_snocI hi]
        simp only [List.map_append, List.map_cons, List.map_nil]
      · rintro _ _
        have hd : decide (((l.length : Nat) : Int) < ((l.length : Nat) : Int)) = false := by simp
        simp only [G.i_ListText.s1, hd, cond_false, List.take_length]
  · intro i hi
    have hd : decide ((i : Int) < ((l.length : Nat) : Int)) = true := decide_eq_true (by omega)
    have hw : IntKind.wrap .i64 ((i : Int) + 1) = ((i + 1 : Nat) : Int) := by rw [wrap64 (by omega) (by omega)]; omega
    have hi2 := h i hi
    have hin : inR (l.getD i default) (-1000000000000) 1000000000000 = true := by simp only [inR, Bool.and_eq_true, decide_eq_true_eq]; omega
    simp only [G.i_ListText.s0, hd, cond_true, Int.toNat_natCast, hw, p_within, hin, Option.bind_some, if_true]
    rw [if_pos ⟨by omega, by omega⟩]
  · have hd : decide (((l.length : Nat) : Int) < ((l.length : Nat) : Int)) = false := by simp
    simp only [G.i_ListText.s0, hd, cond_false]
end Go.Proofs.YtnhgffhnfegiiaaDoor.Fw
namespace Go.Proofs.YtnhgffhnfegiiaaDoor.Fw
open Go.RowKit
set_option linter.unusedVariables false
set_option linter.unusedSimpArgs false
theorem nameOk_size2 {s : ByteArray} (h : nameOk s = true) : s.size ≤ 10 := by
  simp only [nameOk, Bool.and_eq_true, Bool.not_eq_true', Bool.or_eq_false_iff, decide_eq_false_iff_not] at h
  omega
theorem tsize (L : List UInt8) : (⟨L.toArray⟩ : ByteArray).size = L.length := by simp [ByteArray.size]
theorem p_iDecimal (n : Int) (h : n.natAbs ≤ 10000000000000) : G.i_Decimal n = some ⟨(Go.Lib.itoa n).toArray⟩ := by
  simp only [G.i_Decimal, G.strconv_FormatInt]
  rw [if_pos (by refine ⟨?_, ?_, ?_⟩ <;> first | trivial | omega)]
  rfl
def venT (x : TVeneer) : ByteArray := (((x.Species ++ ⟨#[32]⟩) ++ ⟨(Go.Lib.itoa x.Shade).toArray⟩) ++ ⟨#[32]⟩) ++ ⟨(Go.Lib.itoa x.Grain).toArray⟩
theorem itoa_size {n : Int} (h : -1000000000 ≤ n ∧ n ≤ 1000000000) : (⟨(Go.Lib.itoa n).toArray⟩ : ByteArray).size ≤ 1000000002 := by
  rw [tsize]
  have := itoa_len n
  omega
theorem venT_size {x : TVeneer} (h1 : x.Species.size ≤ 20) (h2 : -1000000000 ≤ x.Shade ∧ x.Shade ≤ 1000000000) (h3 : -1000000000 ≤ x.Grain ∧ x.Grain ≤ 1000000000) : (venT x).size ≤ 3000000000 := by
  have := itoa_size h2
  have := itoa_size h3
  have e : ∀ b : UInt8, (⟨#[b]⟩ : ByteArray).size = 1 := fun _ => rfl
  simp only [venT, ByteArray.size_append, e]
  omega
theorem p_l07Text (x : TVeneer) (h1 : x.Species.size ≤ 20) (h2 : -1000000000 ≤ x.Shade ∧ x.Shade ≤ 1000000000) (h3 : -1000000000 ≤ x.Grain ∧ x.Grain ≤ 1000000000) : G.s_l07Text x.Species x.Shade x.Grain = some (venT x) := by
  have := itoa_size h2
  have := itoa_size h3
  simp only [G.s_l07Text]
  rw [if_neg (by omega), p_l01Dec _ (by omega)]
  simp only [Option.bind_some]
  rw [if_neg (by omega), if_neg (by omega), p_l01Dec _ (by omega)]
  simp only [Option.bind_some]
  rw [if_neg (by omega)]
  rfl
theorem p_VeneerText (x : TVeneer) (hv : G.i_ValidVeneer x.Species x.Shade x.Grain = some true) (h1 : x.Species.size ≤ 20) (h2 : -1000000000 ≤ x.Shade ∧ x.Shade ≤ 1000000000) (h3 : -1000000000 ≤ x.Grain ∧ x.Grain ≤ 1000000000) : G.i_VeneerText x.Species x.Shade x.Grain = some (venT x) := by
  have := itoa_size h2
  have := itoa_size h3
  simp only [G.i_VeneerText, hv, Option.bind_some, cond_true]
  rw [if_neg (by omega), p_iDecimal _ (by omega)]
  simp only [Option.bind_some]
  rw [if_neg (by omega), if_neg (by omega), p_iDecimal _ (by omega)]
  simp only [Option.bind_some]
  rw [if_neg (by omega)]
  rfl
theorem small4 {a b c d : Int} (ha : -1000000000 ≤ a ∧ a ≤ 1000000000) (hb : -1000000000 ≤ b ∧ b ≤ 1000000000) (hc : -1000000000 ≤ c ∧ c ≤ 1000000000) (hd : -1000000000 ≤ d ∧ d ≤ 1000000000) : smallN [a, b, c, d] := by
  intro i hi
  have hi' : i < 4 := hi
  have : i = 0 ∨ i = 1 ∨ i = 2 ∨ i = 3 := by omega
  rcases this with rfl | rfl | rfl | rfl
  · show -1000000000000 ≤ a ∧ a ≤ _; omega
  · show -1000000000000 ≤ b ∧ b ≤ _; omega
  · show -1000000000000 ≤ c ∧ c ≤ _; omega
  · show -1000000000000 ≤ d ∧ d ≤ _; omega
theorem inR_iff2 {n lo hi : Int} : inR n lo hi = true ↔ lo ≤ n ∧ n ≤ hi := by simp [inR]
def lossT (x : TLoss) : ByteArray := (((x.Name ++ ⟨#[47]⟩) ++ venT x.Veneer) ++ ⟨#[47]⟩) ++ ⟨(listL [x.Area, x.Priority, x.Cost, x.Minutes]).toArray⟩
theorem both_LossText (x : TLoss) (hx : fitLoss x) : ∃ t, G.s_LossText x.Name x.Veneer.Species x.Veneer.Shade x.Veneer.Grain x.Area x.Priority x.Cost x.Minutes = some t ∧ G.i_LossText x.Name x.Veneer.Species x.Veneer.Shade x.Veneer.Grain x.Area x.Priority x.Cost x.Minutes = some t := by
  obtain ⟨b, h1, h2, h3⟩ := p_lossOne3 x hx
  cases b with
  | false => exact ⟨⟨#[]⟩, by simp only [G.s_LossText, h1, Option.bind_some, cond_false], by simp only [G.i_LossText, h2, Option.bind_some, cond_false]⟩
  | true =>
    have g := h3 rfl
    have gn := nameOk_size2 g.name
    have gs := g.spec
    have g1 := inR_iff2.1 g.shade
    have g2 := inR_iff2.1 g.grain
    have g3 := inR_iff2.1 g.area
    have g4 := inR_iff2.1 g.pri
    have g5 := inR_iff2.1 g.cost
    have g6 := inR_iff2.1 g.mins
    have hsm : smallN [x.Area, x.Priority, x.Cost, x.Minutes] := small4 (by omega) (by omega) (by omega) (by omega)
    have hne : ¬ ([x.Area, x.Priority, x.Cost, x.Minutes] : List Int) = [] := by simp
    have hv := venT_size (x := x.Veneer) gs (by omega) (by omega)
    have hl := listL_len hsm 4 (Nat.le_refl _)
    have e4 : ([x.Area, x.Priority, x.Cost, x.Minutes] : List Int).take 4 = [x.Area, x.Priority, x.Cost, x.Minutes] := rfl
    rw [e4] at hl
    refine ⟨lossT x, ?_, ?_⟩
    · simp only [G.s_LossText, h1, Option.bind_some, cond_true, G.s_l25Text]
      rw [if_neg (by omega), p_l07Text x.Veneer gs (by omega) (by omega)]
      simp only [Option.bind_some]
      rw [if_neg (by omega), if_neg (by omega), p_l01List _ hsm (by simp)]
      simp only [if_neg hne, Option.bind_some, tsize]
      rw [if_neg (by omega)]
      rfl
    · simp only [G.i_LossText, h2, Option.bind_some, cond_true]
      rw [if_neg (by omega), p_VeneerText x.Veneer g.ven gs (by omega) (by omega)]
      simp only [Option.bind_some]
      rw [if_neg (by omega), if_neg (by omega), p_ListText _ hsm (by simp)]
      simp only [if_neg hne, Option.bind_some, tsize]
      rw [if_neg (by omega)]
      rfl
theorem law_LossText (x : TLoss) (hx : fitLoss x) : G.l_FnExactLossText x.Name x.Veneer.Species x.Veneer.Shade x.Veneer.Grain x.Area x.Priority x.Cost x.Minutes = some true := by
  obtain ⟨q, hq, _⟩ := p_szLoss x hx.1 1048576 (by omega) (by omega)
  obtain ⟨t, h1, h2⟩ := both_LossText x hx
  unfold G.l_FnExactLossText
  rw [hq, Option.bind_some]
  by_cases c : q < 0
  · rw [decide_eq_true c]; rfl
  · rw [decide_eq_false c]
    simp only [cond_false, p_toLoss, Option.bind_some, h1, h2, decide_true, cond_true]
theorem ret_FnExactLossText (v0 : ByteArray) (b0 : v0.size ≤ 9223372036854775807) (v1 : ByteArray) (b1 : v1.size ≤ 9223372036854775807) (v2 : Int) (b2 : IntKind.min .i64 ≤ v2) (c2 : v2 ≤ IntKind.max .i64) (v3 : Int) (_ : IntKind.min .i64 ≤ v3) (_ : v3 ≤ IntKind.max .i64) (v4 : Int) (_ : IntKind.min .i64 ≤ v4) (_ : v4 ≤ IntKind.max .i64) (v5 : Int) (_ : IntKind.min .i64 ≤ v5) (_ : v5 ≤ IntKind.max .i64) (v6 : Int) (_ : IntKind.min .i64 ≤ v6) (_ : v6 ≤ IntKind.max .i64) (v7 : Int) (_ : IntKind.min .i64 ≤ v7) (_ : v7 ≤ IntKind.max .i64) :
    Ret Tryd.prog 4 none [.agg [.c (.v (.string v0)), .c (.v (.string v1)), .c (.v (.int .i64 v2)), .c (.v (.int .i64 v3)), .c (.v (.int .i64 v4)), .c (.v (.int .i64 v5)), .c (.v (.int .i64 v6)), .c (.v (.int .i64 v7))]] [] (.c (.v (.bool true))) :=
  ret_l_FnExactLossText v0 v1 v2 v3 v4 v5 v6 v7 (law_LossText ⟨v0, ⟨v1, v2, v3⟩, v4, v5, v6, v7⟩ ⟨⟨b0, b1⟩, b2, c2⟩)
end Go.Proofs.YtnhgffhnfegiiaaDoor.Fw
