/- What the functions without memory come to. No condition. -/
import Derived.Test.YtnhgffhnfegiiaaDoorGNma
import Derived.Test.YtnhgffhnfegiiaaDoorFwGf
namespace Go.Proofs.YtnhgffhnfegiiaaDoor.Fw
open Go.RowKit
set_option linter.unusedVariables false
set_option linter.unusedSimpArgs false
theorem all_getD {a b : List Int} (hl : a.length = b.length) : ((List.range' 0 a.length).all fun i => decide (a.getD i default = b.getD i default)) = decide (a = b) := by
  rw [Bool.eq_iff_iff, List.all_eq_true, decide_eq_true_eq]
  constructor
  · intro h
    refine List.ext_getElem hl fun i h1 h2 => ?_
    have := h i (by simp [List.mem_range'_1]; exact h1)
    simpa [List.getD_eq_getElem?_getD, h1, h2] using this
  · rintro rfl i _
    simp
end Go.Proofs.YtnhgffhnfegiiaaDoor.Fw
namespace Go.Proofs.YtnhgffhnfegiiaaDoor.Fw
open Go.RowKit
set_option linter.unusedVariables false
set_option linter.unusedSimpArgs false
def inR (n lo hi : Int) : Bool := decide (lo ≤ n) && decide (n ≤ hi)
theorem p_within (n lo hi : Int) : G.i_within n lo hi = some (inR n lo hi) := by
  unfold G.i_within inR; cases decide (lo ≤ n) <;> rfl
theorem p_l00In (n lo hi : Int) : G.s_l00In n lo hi = some (inR n lo hi) := by
  unfold G.s_l00In inR; cases decide (lo ≤ n) <;> rfl
theorem p_l01Small (c : Int) : G.s_l01Small c = some (inR c 97 122) := by
  unfold G.s_l01Small inR; cases decide (97 ≤ c) <;> rfl
theorem p_l01Digit (c : Int) : G.s_l01Digit c = some (inR c 48 57) := by
  unfold G.s_l01Digit inR; cases decide (48 ≤ c) <;> rfl
theorem all_getDL {α : Type} [Inhabited α] [DecidableEq α] {a b : List α} (hl : a.length = b.length) : ((List.range' 0 a.length).all fun i => decide (a.getD i default = b.getD i default)) = decide (a = b) := by
  rw [Bool.eq_iff_iff, List.all_eq_true, decide_eq_true_eq]
  constructor
  · intro h
    refine List.ext_getElem hl fun i h1 h2 => ?_
    have := h i (by simp [List.mem_range'_1]; exact h1)
    simpa [List.getD_eq_getElem?_getD, h1, h2] using this
  · rintro rfl i _
    simp
theorem makeOk_of {n : Nat} {b : Nat} (h : n ≤ 1048576) (hb : b ≤ 1000) : makeOk (n : Int) (n : Int) b := by
  unfold makeOk
  have h1 : n * b ≤ 1048576 * 1000 := Nat.mul_le_mul h hb
  have h2 : (b : Int) * (n : Int) = ((n * b : Nat) : Int) := by rw [Int.natCast_mul, Int.mul_comm]
  refine ⟨?_, ?_, ?_, ?_⟩ <;> omega
end Go.Proofs.YtnhgffhnfegiiaaDoor.Fw
namespace Go.Proofs.YtnhgffhnfegiiaaDoor.Fw
open Go.RowKit
set_option linter.unusedVariables false
set_option linter.unusedSimpArgs false
end Go.Proofs.YtnhgffhnfegiiaaDoor.Fw
namespace Go.Proofs.YtnhgffhnfegiiaaDoor.Fw
open Go.RowKit
set_option linter.unusedVariables false
set_option linter.unusedSimpArgs false
def chOk (c : Int) : Bool := inR c 97 122 || inR c 48 57
def nameOk (s : ByteArray) : Bool := !(decide (s.size = 0) || decide ((10 : Int) < ((s.size : Nat) : Int))) && (inR (byteAt s 0) 97 122 && (List.range' 0 s.size).all fun i => chOk (byteAt s i))
theorem p_l01Name (s : ByteArray) (hs : s.size ≤ 9223372036854775807) : G.s_l01Name s = some (nameOk s) := by
  have hit : iter (G.s_l01Name.s0 s) 0 = some (if (List.range' 0 s.size).all (fun i => chOk (byteAt s i)) then .inl () else .inr false) := by
    refine iter_scan (step := G.s_l01Name.s0 s) (n := s.size) (p := fun i => chOk (byteAt s i)) (v := ()) (r := false) ?_ ?_ s.size 0 (by omega)
    · intro i hi
      have h1 : decide ((i : Int) < ((s.size : Nat) : Int)) = true := by simp; omega
      have hc : 0 ≤ (i : Int) ∧ (i : Int) < ((s.size : Nat) : Int) := ⟨by omega, by omega⟩
      simp only [G.s_l01Name.s0, h1, cond_true, if_pos hc, p_l01Small, p_l01Digit, Int.toNat_natCast, Option.bind_some, chOk]
      rw [wrap64 (by omega) (by omega)]
      rcases Bool.eq_false_or_eq_true (inR (byteAt s i) 97 122) with h5 | h5 <;> rcases Bool.eq_false_or_eq_true (inR (byteAt s i) 48 57) with h6 | h6 <;> simp [h5, h6]
    · have h1 : decide (((s.size : Nat) : Int) < ((s.size : Nat) : Int)) = false := by simp
      simp only [G.s_l01Name.s0, h1, cond_false]
  unfold G.s_l01Name nameOk
  rw [hit]
  by_cases c0 : s.size = 0
  · simp [c0]
  · by_cases c1 : (10 : Int) < ((s.size : Nat) : Int)
    · simp [c0, c1]
    · have hc : 0 ≤ (0 : Int) ∧ (0 : Int) < ((s.size : Nat) : Int) := ⟨by omega, by omega⟩
      simp only [c0, c1, decide_false, cond_false, Option.bind_some, if_pos hc, p_l01Small, Bool.or_self, Bool.not_false, Bool.true_and]
      cases inR (byteAt s 0) 97 122
      · rfl
      · cases (List.range' 0 s.size).all fun i => chOk (byteAt s i) <;> rfl
theorem lt_not (a b : Int) : decide (a < b) = !decide (b ≤ a) := by
  by_cases h : a < b
  · simp [h, Int.not_le.2 h]
  · simp [h, Int.not_lt.1 h]
theorem p_IsName (s : ByteArray) (hs : s.size ≤ 9223372036854775807) : G.i_IsName s = some (nameOk s) := by
  have hit : iter (G.i_IsName.s0 s) 0 = some (if (List.range' 0 s.size).all (fun i => chOk (byteAt s i)) then .inl () else .inr false) := by
    refine iter_scan (step := G.i_IsName.s0 s) (n := s.size) (p := fun i => chOk (byteAt s i)) (v := ()) (r := false) ?_ ?_ s.size 0 (by omega)
    · intro i hi
      have h1 : decide ((i : Int) < ((s.size : Nat) : Int)) = true := by simp; omega
      have hc : 0 ≤ (i : Int) ∧ (i : Int) < ((s.size : Nat) : Int) := ⟨by omega, by omega⟩
      simp only [G.i_IsName.s0, h1, cond_true, if_pos hc, Int.toNat_natCast, Option.bind_some, chOk, inR]
      rw [wrap64 (by omega) (by omega), lt_not (byteAt s i) 97, lt_not 122 (byteAt s i), lt_not (byteAt s i) 48, lt_not 57 (byteAt s i)]
      by_cases h5 : 97 ≤ byteAt s i <;> by_cases h6 : byteAt s i ≤ 122 <;> by_cases h7 : 48 ≤ byteAt s i <;> by_cases h8 : byteAt s i ≤ 57 <;> simp [h5, h6, h7, h8]
    · have h1 : decide (((s.size : Nat) : Int) < ((s.size : Nat) : Int)) = false := by simp
      simp only [G.i_IsName.s0, h1, cond_false]
  unfold G.i_IsName nameOk
  rw [hit]
  by_cases c0 : s.size = 0
  · simp [c0]
  · by_cases c1 : (10 : Int) < ((s.size : Nat) : Int)
    · have c2 : ¬ ((s.size : Nat) : Int) < 1 := by omega
      simp [c0, c1, c2]
    · have hc : 0 ≤ (0 : Int) ∧ (0 : Int) < ((s.size : Nat) : Int) := ⟨by omega, by omega⟩
      have c2 : ¬ ((s.size : Nat) : Int) < 1 := by omega
      simp only [c0, c1, c2, decide_false, cond_false, Option.bind_some, if_pos hc, Bool.or_self, Bool.not_false, Bool.true_and, inR, lt_not (byteAt s 0) 97, lt_not 122 (byteAt s 0)]
      cases decide (97 ≤ byteAt s 0) <;> cases decide (byteAt s 0 ≤ 122) <;> cases (List.range' 0 s.size).all fun i => chOk (byteAt s i) <;> rfl
end Go.Proofs.YtnhgffhnfegiiaaDoor.Fw
namespace Go.Proofs.YtnhgffhnfegiiaaDoor.Fw
open Go.RowKit
set_option linter.unusedVariables false
set_option linter.unusedSimpArgs false
theorem p_eqBond (x y : TBond) : G.l_eqBond x.Name x.Spread x.Open x.Press y.Name y.Spread y.Open y.Press = some (decide (x = y)) := by
  obtain ⟨a0, a1, a2, a3⟩ := x
  obtain ⟨b0, b1, b2, b3⟩ := y
  simp only [G.l_eqBond, TBond.mk.injEq]
  by_cases h0 : a0 = b0 <;> by_cases h1 : a1 = b1 <;> by_cases h2 : a2 = b2 <;> by_cases h3 : a3 = b3 <;> simp [h0, h1, h2, h3]
def smallBond (x : TBond) : Prop := x.Name.size ≤ 9223372036854775807
end Go.Proofs.YtnhgffhnfegiiaaDoor.Fw
namespace Go.Proofs.YtnhgffhnfegiiaaDoor.Fw
open Go.RowKit
set_option linter.unusedVariables false
set_option linter.unusedSimpArgs false
def fitBond (x : TBond) : Prop := x.Name.size ≤ 9223372036854775807
def bondR (x : TBond) : Prop := 1 ≤ x.Spread ∧ x.Spread ≤ 120 ∧ x.Spread ≤ x.Open ∧ x.Open ≤ 240 ∧ 1 ≤ x.Press ∧ x.Press ≤ 1440
def bondB (x : TBond) : Bool := nameOk x.Name && inR x.Spread 1 120 && inR x.Open x.Spread 240 && inR x.Press 1 1440
theorem bondB_R {x : TBond} (h : bondB x = true) : bondR x := by
  simp only [bondB, Bool.and_eq_true, inR, decide_eq_true_eq] at h
  unfold bondR
  omega
theorem p_l24One (x : TBond) (hx : fitBond x) : G.s_l24One x.Name x.Spread x.Open x.Press = some (bondB x) := by
  have h1 : x.Name.size ≤ 9223372036854775807 := hx
  simp only [G.s_l24One, p_l01Name x.Name h1, p_l00In, Option.bind_some, bondB]
  cases nameOk x.Name <;> cases inR x.Spread 1 120 <;> cases inR x.Open x.Spread 240 <;> cases inR x.Press 1 1440 <;> rfl
theorem p_ValidBond (x : TBond) (hx : fitBond x) : G.i_ValidBond x.Name x.Spread x.Open x.Press = some (bondB x) := by
  have h1 : x.Name.size ≤ 9223372036854775807 := hx
  simp only [G.i_ValidBond, p_IsName x.Name h1, p_within, Option.bind_some, bondB]
  cases nameOk x.Name <;> cases inR x.Spread 1 120 <;> cases inR x.Open x.Spread 240 <;> cases inR x.Press 1 1440 <;> rfl
theorem fit_getB {a : List TBond} (ha : ∀ x ∈ a, fitBond x) {i : Nat} (hi : i < a.length) : fitBond (a.getD i default) := by
  rw [List.getD_eq_getElem?_getD, List.getElem?_eq_getElem hi, Option.getD_some]
  exact ha _ (List.getElem_mem hi)
def bondsP (a : List TBond) (i : Nat) : Bool := bondB (a.getD i default) && (decide (i = 0) || strLt (a.getD (i - 1) default).Name (a.getD i default).Name)
def bondsB (a : List TBond) : Bool := (List.range' 0 a.length).all (bondsP a) && decide ((a.length : Int) ≤ 12)
theorem bondsB_R {a : List TBond} (h : bondsB a = true) : a.length ≤ 12 ∧ ∀ i, i < a.length → bondR (a.getD i default) := by
  simp only [bondsB, Bool.and_eq_true, List.all_eq_true, decide_eq_true_eq] at h
  refine ⟨by omega, fun i hi => ?_⟩
  have := h.1 i (by simp [List.mem_range'_1]; exact hi)
  simp only [bondsP, Bool.and_eq_true] at this
  exact bondB_R this.1
def tameB (a : List TBond) : Prop := a.length ≤ 12 ∧ ∀ i, i < a.length → bondR (a.getD i default)
end Go.Proofs.YtnhgffhnfegiiaaDoor.Fw
namespace Go.Proofs.YtnhgffhnfegiiaaDoor.Fw
open Go.RowKit
set_option linter.unusedVariables false
set_option linter.unusedSimpArgs false
/-- Decimal digits, the last one first. -/
def revD (u : Nat) : List Int := if h : u = 0 then [] else (48 + ((u % 10 : Nat) : Int)) :: revD (u / 10)
termination_by u
decreasing_by omega
theorem revD_zero : revD 0 = [] := by unfold revD; simp
theorem revD_pos {u : Nat} (h : u ≠ 0) : revD u = (48 + ((u % 10 : Nat) : Int)) :: revD (u / 10) := by
  rw [revD]; simp [h]
theorem revD_len (u : Nat) : (revD u).length ≤ u := by
  induction u using Nat.strongRecOn with
  | ind u ih =>
    by_cases h : u = 0
    · subst h; simp [revD_zero]
    · rw [revD_pos h, List.length_cons]
      have := ih (u / 10) (by omega)
      omega
def u8 (d : Int) : UInt8 := UInt8.ofNat d.toNat
theorem bytesU_eq (xs : List Int) : bytesU xs = xs.map u8 := rfl
theorem dec_rev (u : Nat) (h : u ≠ 0) : Go.Lib.decDigits u = ((revD u).map u8).reverse := by
  induction u using Nat.strongRecOn with
  | ind u ih =>
    rw [Go.Lib.decDigits, revD_pos h]
    by_cases c : u < 10
    · have h0 : u / 10 = 0 := by omega
      have h1 : u % 10 = u := by omega
      rw [dif_pos c, h0, revD_zero, h1]
      have : (48 + (u : Int)).toNat = 48 + u := by omega
      simp only [List.map_cons, List.map_nil, List.reverse_cons, List.reverse_nil, List.nil_append, u8, this]
    · rw [dif_neg c, ih (u / 10) (by omega) (by omega)]
      simp only [List.map_cons, List.reverse_cons]
      congr 1
theorem dec_len (u : Nat) : (Go.Lib.decDigits u).length ≤ u + 1 := by
  by_cases h : u = 0
  · subst h; rw [Go.Lib.decDigits]; simp
  · rw [dec_rev u h]
    have := revD_len u
    simp only [List.length_reverse, List.length_map]
    omega
theorem itoa_len (n : Int) : (Go.Lib.itoa n).length ≤ n.natAbs + 2 := by
  unfold Go.Lib.itoa
  split
  · have := dec_len n.natAbs; simp only [List.length_cons]; omega
  · have := dec_len n.toNat; omega
end Go.Proofs.YtnhgffhnfegiiaaDoor.Fw
namespace Go.Proofs.YtnhgffhnfegiiaaDoor.Fw
open Go.RowKit
set_option linter.unusedVariables false
set_option linter.unusedSimpArgs false
/-- The first part gets something in front. -/
def preF (p : List UInt8) : List (List UInt8) → List (List UInt8)
  | [] => [p]
  | q :: qs => (p ++ q) :: qs
/-- The parts between the bytes c. -/
def spl (c : UInt8) : List UInt8 → List (List UInt8)
  | [] => [[]]
  | x :: xs => if x = c then [] :: spl c xs else preF [x] (spl c xs)
theorem spl_ne (c : UInt8) (l : List UInt8) : spl c l ≠ [] := by
  cases l with
  | nil => simp [spl]
  | cons x xs =>
    unfold spl
    split
    · simp
    · cases spl c xs <;> simp [preF]
theorem preF_nil {L : List (List UInt8)} (h : L ≠ []) : preF [] L = L := by
  cases L with
  | nil => exact absurd rfl h
  | cons q qs => simp [preF]
theorem preF_preF (p q : List UInt8) (L : List (List UInt8)) (h : L ≠ []) : preF p (preF q L) = preF (p ++ q) L := by
  cases L with
  | nil => exact absurd rfl h
  | cons r rs => simp [preF]
theorem splitK_spl (c : UInt8) (l : List UInt8) : Go.Lib.splitK [c] 0 (l.count c) l = spl c l := by
  induction l with
  | nil => rfl
  | cons x xs ih =>
    by_cases h : x = c
    · subst h
      have hidx : Go.Lib.index (x :: xs) [x] = 0 := by simp [Go.Lib.index]
      rw [List.count_cons_self, Go.Lib.splitK, hidx]
      simp only [spl, if_true]
      rw [← ih]
      simp
    · have hne : ¬ [c].isPrefixOf (x :: xs) = true := by simp [Ne.symm h]
      rw [List.count_cons_of_ne h]
      simp only [spl, if_neg h]
      rw [← ih]
      cases hk : xs.count c with
      | zero => simp [Go.Lib.splitK, preF]
      | succ k =>
        have hi : Go.Lib.index (x :: xs) [c] = if (Go.Lib.index xs [c] == -1) = true then -1 else Go.Lib.index xs [c] + 1 := by
          rw [Go.Lib.index, if_neg hne]
        by_cases h1 : Go.Lib.index xs [c] = -1
        · simp [Go.Lib.splitK, hi, h1, preF]
        · have h2 : 0 ≤ Go.Lib.index xs [c] := by
            have := Go.Lib.index_ge xs [c]
            omega
          have h3 : (Go.Lib.index xs [c] + 1).toNat = (Go.Lib.index xs [c]).toNat + 1 := by omega
          have h4 : ¬ Go.Lib.index xs [c] + 1 = -1 := by omega
          simp [Go.Lib.splitK, hi, h1, h3, h4, preF]
end Go.Proofs.YtnhgffhnfegiiaaDoor.Fw
namespace Go.Proofs.YtnhgffhnfegiiaaDoor.Fw
open Go.RowKit
set_option linter.unusedVariables false
set_option linter.unusedSimpArgs false
theorem extr_data (s : ByteArray) (a b : Nat) : (s.extract a b).data.toList = (s.data.toList.drop a).take (b - a) := Go.Lib.extract_data s a b
theorem size_data (s : ByteArray) : s.size = s.data.toList.length := by
  show s.data.size = _
  exact Array.length_toList.symm
theorem toNat_inj {a b : UInt8} : ((a.toNat : Int) = (b.toNat : Int)) ↔ a = b := by
  constructor
  · intro h
    exact UInt8.toNat_inj.1 (by omega)
  · rintro rfl; rfl
theorem p_l01Split (s : ByteArray) (c : UInt8) (hs : s.size ≤ 1000000000) : ∃ L : List ByteArray, G.s_l01Split s (c.toNat : Int) = some L ∧ L.map (·.data.toList) = spl c s.data.toList := by
  have hsz := size_data s
  have hh := iter_go (step := G.s_l01Split.s0 s (c.toNat : Int)) (n := s.size) (A := List ByteArray × Nat) (g := fun x => (x.1, (x.2 : Int))) (fun i x => (x.1, (x.2 : Int), (i : Int)))
    (fun i x => x.2 ≤ i ∧ x.1.length ≤ i ∧ spl c s.data.toList = x.1.map (·.data.toList) ++ preF ((s.data.toList.drop x.2).take (i - x.2)) (spl c (s.data.toList.drop i))) (fun _ => False) ?_ ?_ s.size 0 ([], 0) (by omega) ⟨Nat.le_refl _, Nat.le_refl _, by simp [preF_nil (spl_ne c _)]⟩
  · rcases hh with ⟨⟨out, fr⟩, ⟨h1, h2, h3⟩, h⟩ | ⟨r, hr, _⟩
    · simp only at h1 h2 h3
      have h : iter (G.s_l01Split.s0 s (c.toNat : Int)) ([], 0, 0) = _ := h
      refine ⟨out ++ [s.extract fr s.size], ?_, ?_⟩
      · unfold G.s_l01Split
        rw [h]
        simp only [jn, Option.bind_some, Sum.elim_inl, Int.toNat_natCast]
        rw [if_pos ⟨by omega, by omega⟩, if_pos ⟨by omega, by omega⟩]
      · rw [h3, List.map_append, List.map_cons, List.map_nil, extr_data, hsz, List.drop_length]
        simp [spl, preF]
    · exact hr.elim
  · rintro i ⟨out, fr⟩ hi ⟨h1, h2, h3⟩
    simp only at h1 h2 h3
    have hd : decide ((i : Int) < ((s.size : Nat) : Int)) = true := decide_eq_true (by omega)
    have hw : IntKind.wrap .i64 ((i : Int) + 1) = ((i + 1 : Nat) : Int) := by rw [wrap64 (by omega) (by omega)]; omega
    have hil : i < s.data.toList.length := by omega
    have hdrop : s.data.toList.drop i = s.data.toList[i] :: s.data.toList.drop (i + 1) := (List.getElem_cons_drop ..).symm
    have hb : byteAt s i = ((s.data.toList[i]).toNat : Int) := by
      unfold byteAt
      rw [List.getD_eq_getElem?_getD, List.getElem?_eq_getElem hil, Option.getD_some]
    rw [hdrop] at h3
    simp only [G.s_l01Split.s0, hd, cond_true, Int.toNat_natCast, hw, hb]
    rw [if_pos ⟨by omega, by omega⟩]
    by_cases hc : s.data.toList[i] = c
    · rw [decide_eq_true (toNat_inj.2 hc)]
      simp only [cond_true]
      rw [if_pos ⟨by omega, by omega⟩, if_pos ⟨by omega, by omega⟩, if_pos ⟨by omega, by omega⟩]
      refine .inl ⟨(out ++ [s.extract fr i], i + 1), rfl, Nat.le_refl _, by simp only [List.length_append, List.length_cons, List.length_nil]; omega, ?_⟩
      rw [h3]
      simp only [Nat.sub_self, List.take_zero, List.map_append, List.map_cons, List.map_nil, extr_data]
      rw [preF_nil (spl_ne c _), List.append_assoc]
      simp only [spl, if_pos hc, preF, List.append_nil, List.cons_append, List.nil_append]
    · rw [decide_eq_false (fun h => hc (toNat_inj.1 h))]
      simp only [cond_false, Option.bind_some]
      refine .inl ⟨(out, fr), rfl, by show fr ≤ i + 1; omega, by show out.length ≤ i + 1; omega, ?_⟩
      rw [h3]
      simp only [spl, if_neg hc]
      rw [preF_preF _ _ _ (spl_ne c _)]
      have : (s.data.toList.drop fr).take (i + 1 - fr) = (s.data.toList.drop fr).take (i - fr) ++ [s.data.toList[i]] := by
        have e : i + 1 - fr = (i - fr) + 1 := by omega
        have hl : i - fr < (s.data.toList.drop fr).length := by rw [List.length_drop]; omega
        rw [e, List.take_succ_eq_append_getElem hl, List.getElem_drop]
        congr 2
        have : fr + (i - fr) = i := by omega
        simp only [this]
      rw [this]
  · rintro ⟨out, fr⟩ _
    have hd : decide (((s.size : Nat) : Int) < ((s.size : Nat) : Int)) = false := by simp
    simp only [G.s_l01Split.s0, hd, cond_false]
theorem p_Split (s : ByteArray) (c : UInt8) (hs : s.size ≤ 1000000000) : ∃ L : List ByteArray, G.strings_Split s ⟨#[c]⟩ = some L ∧ L.map (·.data.toList) = spl c s.data.toList := by
  refine ⟨extSplit s ⟨#[c]⟩, ?_, ?_⟩
  · unfold G.strings_Split
    have h1 : (⟨#[c]⟩ : ByteArray).size = 1 := rfl
    rw [if_pos ⟨by omega, by omega⟩]
  · unfold extSplit
    rw [Go.Lib.splitB_data]
    show Go.Lib.splitK [c] 0 (Go.Lib.countB s ⟨#[c]⟩) s.data.toList = _
    rw [← splitK_spl]
    congr 1
    exact Go.Lib.count_one c _
theorem eq_of_data {L M : List ByteArray} (h : L.map (·.data.toList) = M.map (·.data.toList)) : L = M := by
  have inj : ∀ a b : ByteArray, a.data.toList = b.data.toList → a = b := fun a b h => ByteArray.ext (Array.toList_inj.1 h)
  induction L generalizing M with
  | nil => cases M with
    | nil => rfl
    | cons m ms => simp at h
  | cons l ls ih => cases M with
    | nil => simp at h
    | cons m ms =>
      simp only [List.map_cons, List.cons.injEq] at h
      rw [inj _ _ h.1, ih h.2]
/-- Both ways to part a text come to the same. -/
theorem both_Split (s : ByteArray) (c : UInt8) (hs : s.size ≤ 1000000000) : ∃ L : List ByteArray, G.s_l01Split s (c.toNat : Int) = some L ∧ G.strings_Split s ⟨#[c]⟩ = some L ∧ (∀ x ∈ L, x.size ≤ s.size) ∧ L.length ≤ s.size + 1 := by
  obtain ⟨L, h1, h2⟩ := p_l01Split s c hs
  obtain ⟨M, h3, h4⟩ := p_Split s c hs
  have := eq_of_data (h2.trans h4.symm)
  subst this
  have hlen : ∀ l : List UInt8, (spl c l).length ≤ l.length + 1 ∧ ∀ x ∈ spl c l, x.length ≤ l.length := by
    intro l
    induction l with
    | nil => simp [spl]
    | cons x xs ih =>
      obtain ⟨i1, i2⟩ := ih
      unfold spl
      split
      · refine ⟨by simp only [List.length_cons]; omega, fun y hy => ?_⟩
        simp only [List.mem_cons] at hy
        rcases hy with rfl | hy
        · simp
        · have := i2 y hy; simp only [List.length_cons]; omega
      · cases hs : spl c xs with
        | nil => exact absurd hs (spl_ne c xs)
        | cons q qs =>
          rw [hs] at i1 i2
          refine ⟨by simp only [preF, List.length_cons] at i1 ⊢; omega, fun y hy => ?_⟩
          simp only [preF, List.mem_cons] at hy
          rcases hy with rfl | hy
          · have := i2 q (by simp); simp only [List.length_append, List.length_cons, List.length_nil]; omega
          · have := i2 y (by simp [hy]); simp only [List.length_cons]; omega
  refine ⟨L, h1, h3, fun x hx => ?_, ?_⟩
  · have : x.data.toList ∈ spl c s.data.toList := by rw [← h2]; exact List.mem_map_of_mem hx
    have := (hlen _).2 _ this
    rw [size_data, size_data]; exact this
  · have := (hlen s.data.toList).1
    rw [← h2, List.length_map] at this
    rw [size_data]; exact this
end Go.Proofs.YtnhgffhnfegiiaaDoor.Fw
namespace Go.Proofs.YtnhgffhnfegiiaaDoor.Fw
open Go.RowKit
set_option linter.unusedVariables false
set_option linter.unusedSimpArgs false
def isDg (b : UInt8) : Bool := decide (48 ≤ b.toNat) && decide (b.toNat ≤ 57)
def valF (n : Nat) (l : List UInt8) : Nat := l.foldl (fun n b => 10 * n + (b.toNat - 48)) n
def valD (l : List UInt8) : Nat := valF 0 l
theorem iter_digits {step : Int × Int → Option ((Int × Int) ⊕ (Int ⊕ (Int × Bool)))} (l : List UInt8) (off : Nat) (hlen : l.length ≤ 18)
    (hs : ∀ (i n : Nat) (hi : i < l.length), n < 100000000000000000 → step ((n : Int), ((off + i : Nat) : Int)) = if isDg l[i] then some (.inl (((10 * n + (l[i].toNat - 48) : Nat) : Int), ((off + (i + 1) : Nat) : Int))) else some (.inr (.inr (0, false))))
    (he : ∀ n : Int, step (n, ((off + l.length : Nat) : Int)) = some (.inr (.inl n))) :
    iter step ((0 : Int), (off : Int)) = some (if l.all isDg then .inl ((valD l : Nat) : Int) else .inr (0, false)) := by
  have key : ∀ (m k n : Nat), k + m = l.length → n < 10 ^ k → iter step ((n : Int), ((off + k : Nat) : Int)) = some (if (l.drop k).all isDg then .inl ((valF n (l.drop k) : Nat) : Int) else .inr (0, false)) := by
    intro m
    induction m with
    | zero =>
      intro k n hk hn
      have : k = l.length := by omega
      subst this
      rw [iter_inr (r := .inl (n : Int)) (he _), List.drop_length]
      simp [valF]
    | succ m ih =>
      intro k n hk hn
      have hi : k < l.length := by omega
      have hp : 10 ^ k ≤ 10 ^ 17 := Nat.pow_le_pow_right (by omega) (by omega)
      have hb : n < 100000000000000000 := Nat.lt_of_lt_of_le hn (by simpa using hp)
      have h := hs k n hi hb
      have hd : l.drop k = l[k] :: l.drop (k + 1) := (List.getElem_cons_drop ..).symm
      rw [hd, List.all_cons]
      by_cases c : isDg l[k] = true
      · rw [if_pos c] at h
        rw [iter_inl h, ih (k + 1) _ (by omega) ?_, c, Bool.true_and]
        · rfl
        · have : l[k].toNat ≤ 57 := by
            unfold isDg at c
            simp only [Bool.and_eq_true, decide_eq_true_eq] at c
            exact c.2
          rw [Nat.pow_succ]; omega
      · rw [if_neg c] at h
        rw [iter_inr (r := .inr ((0 : Int), false)) h]
        simp only [Bool.not_eq_true] at c
        simp [c]
  have := key l.length 0 0 (by omega) (by simp)
  simpa [valD] using this
/-- What reading a number comes to. -/
def numD (neg : Bool) (D : List UInt8) : Int × Bool :=
  if D.length = 0 ∨ 18 < D.length ∨ (D.head? = some 48 ∧ 1 < (if neg then 1 else 0) + D.length) ∨ D.all isDg = false then (0, false) else ((if neg then -((valD D : Nat) : Int) else ((valD D : Nat) : Int)), true)
def isNeg (s : ByteArray) : Bool := decide (s.data.toList.head? = some 45)
def numR (s : ByteArray) : Int × Bool := numD (isNeg s) (s.data.toList.drop (if isNeg s then 1 else 0))
theorem byteAt_get (s : ByteArray) (i : Nat) (h : i < s.data.toList.length) : byteAt s i = ((s.data.toList[i]).toNat : Int) := by
  unfold byteAt
  rw [List.getD_eq_getElem?_getD, List.getElem?_eq_getElem h, Option.getD_some]
theorem isNeg_iff (s : ByteArray) (h : 0 < s.size) : isNeg s = decide (byteAt s 0 = 45) := by
  rw [size_data] at h
  unfold isNeg
  rw [byteAt_get s 0 h, List.head?_eq_getElem?, List.getElem?_eq_getElem h]
  congr 1
  rw [eq_iff_iff]
  constructor
  · intro h
    rw [Option.some.inj h]; rfl
  · intro h
    exact congrArg some (toNat_inj.1 h)
theorem isNeg_len {s : ByteArray} (h : isNeg s = true) : 1 ≤ s.size := by
  rw [size_data]
  unfold isNeg at h
  cases hl : s.data.toList with
  | nil => rw [hl] at h; simp at h
  | cons a b => simp
theorem isDg_lo {b : UInt8} (h : isDg b = true) : 48 ≤ b.toNat ∧ b.toNat ≤ 57 := by
  unfold isDg at h
  simpa using h
theorem wrapU8 {n : Int} (h0 : 0 ≤ n) (h1 : n < 256) : IntKind.wrap .u8 n = n := by
  show n % 256 = n
  omega
theorem valF_lt : ∀ (l : List UInt8) (n k : Nat), l.all isDg = true → n < 10 ^ k → valF n l < 10 ^ (k + l.length) := by
  intro l
  induction l with
  | nil => intro n k _ h; simpa [valF] using h
  | cons b l ih =>
    intro n k ha h
    rw [List.all_cons, Bool.and_eq_true] at ha
    have h1 := isDg_lo ha.1
    have := ih (10 * n + (b.toNat - 48)) (k + 1) ha.2 (by rw [Nat.pow_succ]; omega)
    rw [List.length_cons, show k + (l.length + 1) = k + 1 + l.length by omega]
    exact this
theorem valD_le {l : List UInt8} (h : l.all isDg = true) (hl : l.length ≤ 18) : ((valD l : Nat) : Int) ≤ 1000000000000000000 := by
  have h1 := valF_lt l 0 0 h (by simp)
  have h2 : 10 ^ (0 + l.length) ≤ 10 ^ 18 := Nat.pow_le_pow_right (by omega) (by omega)
  have h3 : valD l < 1000000000000000000 := Nat.lt_of_lt_of_le h1 (by simpa using h2)
  omega
theorem dg_in (b : UInt8) : inR ((b.toNat : Nat) : Int) 48 57 = isDg b := by
  unfold inR isDg
  congr 1
  · rw [decide_eq_decide]; omega
  · rw [decide_eq_decide]; omega
theorem dg_add (n : Nat) (b : UInt8) (hn : n < 100000000000000000) (hb : isDg b = true) : IntKind.wrap .i64 ((IntKind.wrap .i64 ((10 : Int) * (n : Int))) + (IntKind.wrap .i64 (IntKind.wrap .u8 (((b.toNat : Nat) : Int) - (48 : Int))))) = ((10 * n + (b.toNat - 48) : Nat) : Int) := by
  have h := isDg_lo hb
  have w1 : IntKind.wrap .u8 (((b.toNat : Nat) : Int) - (48 : Int)) = ((b.toNat : Nat) : Int) - 48 := wrapU8 (by omega) (by omega)
  have w2 : IntKind.wrap .i64 (((b.toNat : Nat) : Int) - (48 : Int)) = ((b.toNat : Nat) : Int) - 48 := wrap64 (by omega) (by omega)
  have w3 : IntKind.wrap .i64 ((10 : Int) * (n : Int)) = 10 * (n : Int) := wrap64 (by omega) (by omega)
  rw [w1, w2, w3, wrap64 (by omega) (by omega)]
  omega
theorem p_l01Number (s : ByteArray) (hs : s.size ≤ 1000000000) : G.s_l01Number s = some (numR s) := by
  have hsz := size_data s
  have hq1 : (bif (decide ((0 : Int) < ((s.size : Nat) : Int))) then (if 0 ≤ (0 : Int) ∧ (0 : Int) < ((s.size : Nat) : Int) then (some (decide ((byteAt s 0) = (45 : Int)))) else none) else (some false)) = some (isNeg s) := by
    by_cases c : 0 < s.size
    · rw [decide_eq_true (by omega), cond_true, if_pos ⟨by omega, by omega⟩, isNeg_iff s c]
    · rw [decide_eq_false (by omega), cond_false]
      cases h : isNeg s
      · rfl
      · have := isNeg_len h; omega
  unfold G.s_l01Number
  rw [hq1]
  simp only [Option.bind_some]
  have hst : ∃ st : Nat, (bif isNeg s then (some (1 : Int)) else (some (0 : Int))) = some (st : Int) ∧ st = (if isNeg s then 1 else 0) ∧ st ≤ s.size := by
    cases h : isNeg s
    · exact ⟨0, rfl, rfl, by omega⟩
    · exact ⟨1, rfl, rfl, isNeg_len h⟩
  obtain ⟨st, e1, e2, e3⟩ := hst
  rw [e1]
  simp only [Option.bind_some]
  unfold numR numD
  rw [← e2]
  have hlen : (s.data.toList.drop st).length = s.size - st := by rw [List.length_drop, ← hsz]
  have hw : IntKind.wrap .i64 (((s.size : Nat) : Int) - (st : Int)) = ((s.size - st : Nat) : Int) := by rw [wrap64 (by omega) (by omega)]; omega
  rw [hw, hlen]
  by_cases c1 : s.size = st
  · rw [decide_eq_true (by omega), cond_true]
    simp only [Option.bind_some, cond_true]
    rw [if_pos (.inl (by omega))]
  · rw [decide_eq_false (by omega), cond_false]
    simp only [Option.bind_some]
    by_cases c2 : 18 < s.size - st
    · rw [decide_eq_true (by omega), cond_true]
      simp only [Option.bind_some, cond_true]
      rw [if_pos (.inr (.inl c2))]
    · have hst0 : st < s.data.toList.length := by omega
      have hh : (s.data.toList.drop st).head? = some (s.data.toList[st]) := by
        rw [List.head?_drop, List.getElem?_eq_getElem hst0]
      have hto : st + (s.size - st) = s.size := by omega
      rw [decide_eq_false (by omega), cond_false, if_pos ⟨by omega, by omega⟩, Int.toNat_natCast, byteAt_get s st hst0, hh, hto]
      have hz : (((s.data.toList[st]).toNat : Int) = 48) ↔ (some (s.data.toList[st]) = some 48) := by
        rw [Option.some_inj]
        exact toNat_inj (b := 48)
      have hq4 : (bif decide (((s.data.toList[st]).toNat : Int) = 48) then some (decide ((1 : Int) < ((s.size : Nat) : Int))) else some false) = some (decide (some (s.data.toList[st]) = some 48 ∧ 1 < s.size)) := by
        by_cases a : ((s.data.toList[st]).toNat : Int) = 48
        · rw [decide_eq_true a, cond_true]
          congr 1
          by_cases b : 1 < s.size
          · rw [decide_eq_true (by omega), decide_eq_true ⟨hz.1 a, b⟩]
          · rw [decide_eq_false (by omega), decide_eq_false (fun x => b x.2)]
        · rw [decide_eq_false a, cond_false, decide_eq_false (fun x => a (hz.2 x.1))]
      rw [hq4]
      simp only [Option.bind_some]
      by_cases c3 : some (s.data.toList[st]) = some 48 ∧ 1 < s.size
      · rw [decide_eq_true c3, cond_true, if_pos (.inr (.inr (.inl c3)))]
      · rw [decide_eq_false c3, cond_false]
        have hit := iter_digits (step := G.s_l01Number.s0 s) (s.data.toList.drop st) st (by omega) ?_ ?_
        · rw [hit]
          cases c4 : (s.data.toList.drop st).all isDg
          · rw [if_neg (show ¬ (false = true) by decide), if_pos (Or.inr (Or.inr (Or.inr rfl)))]
            rfl
          · rw [if_pos (rfl : true = true), if_neg (by
              rintro (a | a | a | a)
              · omega
              · omega
              · exact c3 a
              · exact absurd a (by decide))]
            simp only [jn, Option.bind_some, Sum.elim_inl]
            have hb : (valD (s.data.toList.drop st) : Int) ≤ 1000000000000000000 := valD_le c4 (by omega)
            cases h : isNeg s
            · rw [h] at e2
              rw [decide_eq_false (by simp at e2; omega)]
              rfl
            · rw [h] at e2
              rw [decide_eq_true (by simp at e2; omega), cond_true]
              simp only [Option.bind_some]
              rw [wrap64 (by omega) (by omega)]
              simp
        · intro i n hi hn
          have hi' : st + i < s.data.toList.length := by rw [hlen] at hi; omega
          have hg : (s.data.toList.drop st)[i] = s.data.toList[st + i] := List.getElem_drop
          rw [hg]
          simp only [G.s_l01Number.s0, Int.toNat_natCast]
          have w : IntKind.wrap .i64 (((st + i : Nat) : Int) + 1) = ((st + (i + 1) : Nat) : Int) := by rw [wrap64 (by omega) (by omega)]; omega
          rw [decide_eq_true (by omega), cond_true, if_pos ⟨by omega, by omega⟩, if_pos ⟨by omega, by omega⟩, byteAt_get s _ hi', p_l01Digit, w, dg_in]
          simp only [Option.bind_some]
          cases c : isDg (s.data.toList[st + i])
          · rfl
          · rw [dg_add n _ hn c]
            rfl
        · intro n
          simp only [G.s_l01Number.s0]
          rw [hlen, decide_eq_false (by omega), cond_false]
/-- Decimal digits and values. -/
theorem valF_append (n : Nat) (l m : List UInt8) : valF n (l ++ m) = valF (valF n l) m := by unfold valF; rw [List.foldl_append]
theorem valF_one (n : Nat) (b : UInt8) : valF n [b] = 10 * n + (b.toNat - 48) := rfl
theorem dec_step (u d : Nat) (hu : u ≠ 0) (hd : d < 10) : Go.Lib.decDigits (10 * u + d) = Go.Lib.decDigits u ++ [UInt8.ofNat (48 + d)] := by
  rw [Go.Lib.decDigits, dif_neg (by omega)]
  have h1 : (10 * u + d) / 10 = u := by omega
  have h2 : (10 * u + d) % 10 = d := by omega
  rw [h1, h2]
theorem ofNat_dg {b : UInt8} (h : isDg b = true) : UInt8.ofNat (48 + (b.toNat - 48)) = b := by
  have := isDg_lo h
  rw [show 48 + (b.toNat - 48) = b.toNat by omega]
  exact UInt8.ofNat_toNat
theorem valF_ge (n : Nat) (l : List UInt8) : n ≤ valF n l := by
  induction l generalizing n with
  | nil => exact Nat.le_refl _
  | cons b l ih =>
    have := ih (10 * n + (b.toNat - 48))
    show n ≤ valF (10 * n + (b.toNat - 48)) l
    omega
theorem dec_valF (l : List UInt8) : ∀ n : Nat, n ≠ 0 → l.all isDg = true → Go.Lib.decDigits (valF n l) = Go.Lib.decDigits n ++ l := by
  induction l with
  | nil => intro n _ _; simp [valF]
  | cons b l ih =>
    intro n hn ha
    rw [List.all_cons, Bool.and_eq_true] at ha
    have hb := isDg_lo ha.1
    show Go.Lib.decDigits (valF (10 * n + (b.toNat - 48)) l) = _
    rw [ih _ (by omega) ha.2, dec_step n _ hn (by omega), ofNat_dg ha.1, List.append_assoc]
    rfl
theorem dec_valD (b : UInt8) (l : List UInt8) (ha : (b :: l).all isDg = true) (hb : b ≠ 48) : valD (b :: l) ≠ 0 ∧ Go.Lib.decDigits (valD (b :: l)) = b :: l := by
  rw [List.all_cons, Bool.and_eq_true] at ha
  have h1 := isDg_lo ha.1
  have h2 : b.toNat ≠ 48 := fun h => hb (UInt8.toNat_inj.1 h)
  have hv : valD (b :: l) = valF (b.toNat - 48) l := by
    show valF (10 * 0 + (b.toNat - 48)) l = _
    rw [Nat.mul_zero, Nat.zero_add]
  have hge := valF_ge (b.toNat - 48) l
  refine ⟨by omega, ?_⟩
  rw [hv, dec_valF l _ (by omega) ha.2, Go.Lib.decDigits, dif_pos (by omega), ofNat_dg ha.1]
  rfl
theorem dec_head (u : Nat) (h : u ≠ 0) : (Go.Lib.decDigits u).head? ≠ some 48 := by
  induction u using Nat.strongRecOn with
  | ind u ih =>
    rw [Go.Lib.decDigits]
    by_cases c : u < 10
    · rw [dif_pos c]
      intro e
      have e : UInt8.ofNat (48 + u) = 48 := Option.some.inj e
      have := congrArg UInt8.toNat e
      rw [UInt8.toNat_ofNat_of_lt' (by show 48 + u < 256; omega)] at this
      have : 48 + u = 48 := this
      omega
    · rw [dif_neg c]
      have := ih (u / 10) (by omega) (by omega)
      cases hd : Go.Lib.decDigits (u / 10) with
      | nil =>
        have hl := Go.Lib.decDigits_length (u / 10)
        rw [Go.Lib.decDigits] at hd
        split at hd <;> simp at hd
      | cons x xs =>
        rw [hd] at this
        simpa using this
theorem dec_zero : Go.Lib.decDigits 0 = [48] := by rw [Go.Lib.decDigits, dif_pos (by omega)]; rfl
/-- A text of digits is what its number is told as, where it does not begin with a nought. -/
theorem itoa_num (neg : Bool) (b : UInt8) (l : List UInt8) (ha : (b :: l).all isDg = true) :
    Go.Lib.itoa (if neg then -((valD (b :: l) : Nat) : Int) else ((valD (b :: l) : Nat) : Int)) = (if neg then [45] else []) ++ (b :: l) ↔ ¬ (b = 48 ∧ 1 < (if neg then 1 else 0) + (b :: l).length) := by
  by_cases hb : b = 48
  · subst hb
    have hv : valD (48 :: l) = valF 0 l := rfl
    cases neg with
    | false =>
      simp only [Bool.false_eq_true, if_false, List.nil_append, Go.Lib.itoa_nonneg, List.length_cons, true_and]
      by_cases hl : l = []
      · subst hl
        have : valD [48] = 0 := rfl
        rw [this, dec_zero]
        simp
      · have h1 : 0 < l.length := List.length_pos_iff.2 hl
        refine ⟨fun e => ?_, fun e => absurd (by omega) e⟩
        by_cases h0 : valD (48 :: l) = 0
        · rw [h0, dec_zero] at e
          have := congrArg List.length e
          simp only [List.length_cons, List.length_nil] at this
          omega
        · exact absurd (by rw [e]; rfl) (dec_head _ h0)
    | true =>
      simp only [if_true, List.cons_append, List.nil_append, List.length_cons, true_and]
      refine ⟨fun e => ?_, fun e => absurd (by omega) e⟩
      by_cases h0 : valD (48 :: l) = 0
      · rw [h0] at e
        have : Go.Lib.itoa (-((0 : Nat) : Int)) = [48] := by
          show Go.Lib.itoa (0 : Int) = _
          rw [show (0 : Int) = ((0 : Nat) : Int) from rfl, Go.Lib.itoa_nonneg, dec_zero]
        rw [this] at e
        simp at e
      · rw [Go.Lib.itoa_neg _ (by omega)] at e
        have e : Go.Lib.decDigits (valD (48 :: l)) = 48 :: l := (List.cons.inj e).2
        exact absurd (by rw [e]; rfl) (dec_head _ h0)
  · obtain ⟨h1, h2⟩ := dec_valD b l ha hb
    refine ⟨fun _ h => hb h.1, fun _ => ?_⟩
    cases neg with
    | false =>
      simp only [Bool.false_eq_true, if_false, List.nil_append, Go.Lib.itoa_nonneg]
      exact h2
    | true =>
      simp only [if_true, List.cons_append, List.nil_append]
      rw [Go.Lib.itoa_neg _ (by omega), h2]
end Go.Proofs.YtnhgffhnfegiiaaDoor.Fw
namespace Go.Proofs.YtnhgffhnfegiiaaDoor.Fw
open Go.RowKit
set_option linter.unusedVariables false
set_option linter.unusedSimpArgs false
theorem p_HasPrefix (s : ByteArray) (hs : s.size ≤ 1000000000) : G.strings_HasPrefix s ⟨#[45]⟩ = some (isNeg s) := by
  have hsz := size_data s
  unfold G.strings_HasPrefix G.internal_stringslite_HasPrefix
  have h1 : (⟨#[45]⟩ : ByteArray).size = 1 := rfl
  rw [h1]
  by_cases c : 1 ≤ s.size
  · rw [decide_eq_true (by omega), cond_true, if_pos ⟨by omega, by omega⟩]
    simp only [Option.bind_some]
    congr 1
    unfold isNeg
    rw [decide_eq_decide]
    have hd : (s.extract 0 1).data.toList = s.data.toList.take 1 := by rw [extr_data]; rfl
    constructor
    · intro e
      rw [e] at hd
      cases hl : s.data.toList with
      | nil =>
        rw [hl] at hsz
        have : s.size = 0 := hsz
        omega
      | cons a b => rw [hl] at hd; simp at hd; simp [hd]
    · intro e
      cases hl : s.data.toList with
      | nil => rw [hl] at e; simp at e
      | cons a b =>
        rw [hl] at hd e
        simp at e
        subst e
        apply ByteArray.ext
        apply Array.toList_inj.1
        rw [hd]
        rfl
  · rw [decide_eq_false (by omega), cond_false]
    simp only [Option.bind_some]
    cases h : isNeg s
    · rfl
    · have := isNeg_len h; omega
theorem p_ReadDecimal (s : ByteArray) (hs : s.size ≤ 1000000000) : G.i_ReadDecimal s = some (numR s) := by
  have hsz := size_data s
  unfold G.i_ReadDecimal
  rw [p_HasPrefix s hs]
  simp only [Option.bind_some]
  have hq : ∃ q : ByteArray, (bif isNeg s then (if 0 ≤ (1 : Int) ∧ (1 : Int) ≤ ((s.size : Nat) : Int) then (some (s.extract 1 s.size)) else none) else (some s)) = some q ∧ q.data.toList = s.data.toList.drop (if isNeg s then 1 else 0) ∧ q.size = s.size - (if isNeg s then 1 else 0) ∧ (if isNeg s then 1 else 0) ≤ s.size := by
    cases h : isNeg s
    · exact ⟨s, rfl, rfl, rfl, Nat.zero_le _⟩
    · have := isNeg_len h
      refine ⟨s.extract 1 s.size, ?_, ?_, ?_, this⟩
      · rw [cond_true, if_pos ⟨by omega, by omega⟩]
      · rw [extr_data, if_pos rfl, List.take_of_length_le (by rw [List.length_drop]; omega)]
      · rw [size_data, extr_data, List.length_take, List.length_drop, if_pos rfl]; omega
  obtain ⟨q, e1, e2, e3, e4⟩ := hq
  rw [e1]
  simp only [Option.bind_some]
  unfold numR numD
  have hD : ((s.data.toList.drop (if isNeg s then 1 else 0))).length = q.size := by rw [← e2, size_data]
  rw [hD, ← e2]
  by_cases c1 : q.size = 0
  · rw [decide_eq_true (by omega), cond_true]
    simp only [Option.bind_some, cond_true]
    rw [if_pos (.inl c1)]
  · rw [decide_eq_false (by omega), cond_false]
    simp only [Option.bind_some]
    by_cases c2 : 18 < q.size
    · rw [decide_eq_true (by omega), cond_true, if_pos (.inr (.inl c2))]
    · rw [decide_eq_false (by omega), cond_false]
      have hql := size_data q
      have hit := iter_digits (step := G.i_ReadDecimal.s0 q) q.data.toList 0 (by omega) ?_ ?_
      · have hit : iter (G.i_ReadDecimal.s0 q) ((0 : Int), (0 : Int)) = _ := hit
        rw [hit]
        cases c4 : q.data.toList.all isDg
        · rw [if_neg (show ¬ (false = true) by decide), if_pos (Or.inr (Or.inr (Or.inr rfl)))]
          rfl
        · have hb : (valD q.data.toList : Int) ≤ 1000000000000000000 := valD_le c4 (by omega)
          rw [if_pos (rfl : true = true)]
          simp only [jn, Option.bind_some, Sum.elim_inl]
          have hn : (bif (decide (((q.size : Nat) : Int) < ((s.size : Nat) : Int))) then (some (IntKind.wrap .i64 (0 - ((valD q.data.toList : Nat) : Int)))) else (some ((valD q.data.toList : Nat) : Int))) = some (if isNeg s then -((valD q.data.toList : Nat) : Int) else ((valD q.data.toList : Nat) : Int)) := by
            cases h : isNeg s
            · rw [h] at e3
              rw [decide_eq_false (by simp at e3; omega)]
              rfl
            · rw [h] at e3 e4
              rw [decide_eq_true (by simp at e3 e4; omega), cond_true, wrap64 (by omega) (by omega)]
              simp
          rw [hn]
          simp only [Option.bind_some]
          obtain ⟨b, l, hbl⟩ : ∃ b l, q.data.toList = b :: l := by
            cases h : q.data.toList with
            | nil =>
              rw [h] at hql
              have : q.size = 0 := hql
              omega
            | cons b l => exact ⟨b, l, rfl⟩
          have key := itoa_num (isNeg s) b l (by rw [← hbl]; exact c4)
          have hsd : s.data.toList = (if isNeg s then [45] else []) ++ (b :: l) := by
            rw [← hbl, e2]
            cases h : isNeg s
            · rfl
            · unfold isNeg at h
              have h := of_decide_eq_true h
              cases hl : s.data.toList with
              | nil => rw [hl] at h; simp at h
              | cons x xs => rw [hl] at h; simp at h; simp [h]
          have hlen : (if isNeg s then 1 else 0) + (b :: l).length = (if isNeg s then 1 else 0) + q.size := by rw [← hbl, hql]
          rw [hlen] at key
          have hdec : G.i_Decimal (if isNeg s then -((valD q.data.toList : Nat) : Int) else ((valD q.data.toList : Nat) : Int)) = some (⟨(Go.Lib.itoa (if isNeg s then -((valD q.data.toList : Nat) : Int) else ((valD q.data.toList : Nat) : Int))).toArray⟩ : ByteArray) := by
            unfold G.i_Decimal G.strconv_FormatInt
            rw [if_pos]
            · rfl
            · refine ⟨rfl, ?_⟩
              have : ∀ (x : Int) (b : Bool), 0 ≤ x → x ≤ 1000000000000000000 → -9223372036854775808 ≤ (if b = true then -x else x) ∧ (if b = true then -x else x) ≤ 9223372036854775807 := by
                intro x b h0 h1
                cases b <;> simp <;> omega
              exact this _ _ (by omega) hb
          rw [hdec]
          simp only [Option.bind_some]
          have hbeq : ((⟨(Go.Lib.itoa (if isNeg s then -((valD q.data.toList : Nat) : Int) else ((valD q.data.toList : Nat) : Int))).toArray⟩ : ByteArray) = s) ↔ Go.Lib.itoa (if isNeg s then -((valD (b :: l) : Nat) : Int) else ((valD (b :: l) : Nat) : Int)) = (if isNeg s then [45] else []) ++ (b :: l) := by
            rw [← hsd, ← hbl]
            constructor
            · intro e
              simpa using congrArg (fun z => z.data.toList) e
            · intro e
              apply ByteArray.ext
              apply Array.toList_inj.1
              simpa using e
          by_cases ce : b = 48 ∧ 1 < (if isNeg s then 1 else 0) + q.size
          · rw [decide_eq_false (fun x => (key.1 (hbeq.1 x)) ce), cond_false, if_pos (.inr (.inr (.inl ⟨by rw [hbl, ce.1]; rfl, ce.2⟩)))]
          · have hno : ¬ (q.size = 0 ∨ 18 < q.size ∨ (q.data.toList.head? = some 48 ∧ 1 < (if isNeg s = true then 1 else 0) + q.size) ∨ true = false) := by
              rintro (a | a | a | a)
              · omega
              · omega
              · rw [hbl] at a
                exact ce ⟨Option.some.inj a.1, a.2⟩
              · exact absurd a (by decide)
            rw [decide_eq_true (hbeq.2 (key.2 ce)), cond_true, if_neg hno]
      · intro i n hi hn
        simp only [G.i_ReadDecimal.s0, Int.toNat_natCast, Nat.zero_add]
        have w : IntKind.wrap .i64 ((i : Int) + 1) = ((i + 1 : Nat) : Int) := by rw [wrap64 (by omega) (by omega)]; omega
        rw [decide_eq_true (by omega), cond_true, if_pos ⟨by omega, by omega⟩, byteAt_get q i hi, w]
        cases c : isDg (q.data.toList[i])
        · rw [if_neg (show ¬ (false = true) by decide)]
          by_cases c5 : ((q.data.toList[i]).toNat : Int) < 48
          · rw [decide_eq_true c5]
            rfl
          · have c6 : (57 : Int) < ((q.data.toList[i]).toNat : Int) := by
              rw [← dg_in] at c
              unfold inR at c
              simp only [Bool.and_eq_false_iff, decide_eq_false_iff_not] at c
              omega
            rw [decide_eq_false c5, cond_false, if_pos ⟨by omega, by omega⟩, decide_eq_true c6]
            rfl
        · have hc := isDg_lo c
          have da := dg_add n _ hn c
          rw [Int.mul_comm 10] at da
          rw [if_pos (rfl : true = true), decide_eq_false (by omega), cond_false, if_pos ⟨by omega, by omega⟩, decide_eq_false (by omega)]
          simp only [Option.bind_some, cond_false]
          rw [if_pos ⟨by omega, by omega⟩, da]
      · intro n
        simp only [G.i_ReadDecimal.s0, Nat.zero_add]
        rw [decide_eq_false (by omega), cond_false]
end Go.Proofs.YtnhgffhnfegiiaaDoor.Fw
namespace Go.Proofs.YtnhgffhnfegiiaaDoor.Fw
open Go.RowKit
set_option linter.unusedVariables false
set_option linter.unusedSimpArgs false
theorem numD_le (neg : Bool) (D : List UInt8) : -1000000000000000000 ≤ (numD neg D).1 ∧ (numD neg D).1 ≤ 1000000000000000000 := by
  unfold numD
  by_cases c : D.length = 0 ∨ 18 < D.length ∨ (D.head? = some 48 ∧ 1 < (if neg then 1 else 0) + D.length) ∨ D.all isDg = false
  · rw [if_pos c]
    exact ⟨by decide, by decide⟩
  · rw [if_neg c]
    have h1 : ¬ 18 < D.length := fun h => c (.inr (.inl h))
    have h2 : D.all isDg = true := by
      cases h : D.all isDg
      · exact absurd (.inr (.inr (.inr h))) c
      · rfl
    have := valD_le h2 (by omega)
    cases neg
    · exact ⟨by show _ ≤ ((valD D : Nat) : Int); omega, this⟩
    · exact ⟨by show _ ≤ -((valD D : Nat) : Int); omega, by show -((valD D : Nat) : Int) ≤ _; omega⟩
theorem numR_le (s : ByteArray) : -1000000000000000000 ≤ (numR s).1 ∧ (numR s).1 ≤ 1000000000000000000 := numD_le _ _
theorem getD_mem {α : Type} [Inhabited α] {l : List α} {i : Nat} (h : i < l.length) : l.getD i default ∈ l := by
  rw [List.getD_eq_getElem?_getD, List.getElem?_eq_getElem h, Option.getD_some]
  exact List.getElem_mem h
theorem list_steps (L : List ByteArray) (hL : ∀ x ∈ L, x.size ≤ 1000000000) : G.i_ReadList.s0 L = G.s_ReadList.s0 L := by
  funext ⟨out, i⟩
  simp only [G.i_ReadList.s0, G.s_ReadList.s0]
  by_cases c : 0 ≤ i ∧ i < ((L.length : Nat) : Int)
  · rw [if_pos c, if_pos c]
    have hm := hL _ (getD_mem (l := L) (i := i.toNat) (by omega))
    rw [p_ReadDecimal _ hm, p_l01Number _ hm]
    simp only [Option.bind_some, p_within, p_l00In]
  · rw [if_neg c, if_neg c]
theorem p_list_loop (L : List ByteArray) (hL : ∀ x ∈ L, x.size ≤ 1000000000) (hn : L.length ≤ 1000000000) :
    (∃ o : List Int, (o.length = L.length) ∧ iter (G.s_ReadList.s0 L) (([] : List Int), (0 : Int)) = some (.inl o)) ∨ iter (G.s_ReadList.s0 L) (([] : List Int), (0 : Int)) = some (.inr (none, false)) := by
  have h := iter_exit (step := G.s_ReadList.s0 L) (n := L.length) (g := fun o : List Int => o) (fun i o => o.length = i) (fun r => r = ((none : Option (List Int)), false)) ?_ ?_ L.length 0 [] (by omega) rfl
  · rcases h with ⟨o, h1, h2⟩ | ⟨r, h1, h2⟩
    · exact .inl ⟨o, h1, h2⟩
    · subst h1; exact .inr h2
  · intro i o hi ho
    have hm := hL _ (getD_mem (l := L) (i := i) hi)
    simp only [G.s_ReadList.s0, Int.toNat_natCast]
    rw [decide_eq_true (by omega), cond_true, if_pos ⟨by omega, by omega⟩, p_l01Number _ hm]
    simp only [Option.bind_some, p_l00In]
    cases h2 : (numR (L.getD i default)).2
    · simp only [cond_false, Option.bind_some, cond_true]
      exact .inr ⟨_, rfl, rfl⟩
    · simp only [cond_true, Option.bind_some]
      cases h3 : inR (numR (L.getD i default)).1 (-1000000000000) 1000000000000
      · simp only [Bool.not_false, cond_true]
        exact .inr ⟨_, rfl, rfl⟩
      · simp only [Bool.not_true, cond_false]
        rw [if_pos ⟨by omega, by omega⟩, wrap64 (by omega) (by omega)]
        exact .inl ⟨_, rfl, by simp only [List.length_append, List.length_cons, List.length_nil]; omega⟩
  · intro o ho
    simp only [G.s_ReadList.s0]
    rw [decide_eq_false (by omega), cond_false]
/-- Both ways to read a list: the same but for a list without numbers. -/
theorem p_ReadList (s : ByteArray) (hs : s.size ≤ 1048576) : ∃ r t, G.s_ReadList s = some t ∧ G.i_ReadList s = some r ∧ (r = t ∨ (r = (none, true) ∧ t = (some [], true))) ∧ (∀ l, t.1 = some l → l.length ≤ 64) := by
  unfold G.s_ReadList G.i_ReadList
  by_cases c : s = (⟨#[45]⟩ : ByteArray)
  · rw [decide_eq_true c]
    refine ⟨_, _, rfl, rfl, .inr ⟨rfl, rfl⟩, ?_⟩
    intro l hl
    obtain rfl := Option.some.inj hl
    exact Nat.zero_le _
  · rw [decide_eq_false c]
    simp only [cond_false]
    obtain ⟨L, h1, h2, h3, h4⟩ := both_Split s 44 (by omega)
    have h1 : G.s_l01Split s (44 : Int) = some L := h1
    have hx : ∀ x ∈ L, x.size ≤ 1000000000 := fun x hx => by have := h3 x hx; omega
    rw [h1, h2]
    simp only [Option.bind_some, list_steps L hx]
    rcases p_list_loop L hx (by omega) with ⟨o, ho, hl⟩ | hl
    · rw [hl]
      by_cases c1 : (64 : Int) < ((L.length : Nat) : Int)
      · rw [decide_eq_true c1]
        simp only [cond_true, jn, Option.bind_some, Sum.elim_inl]
        rw [decide_eq_true (by omega)]
        exact ⟨_, _, rfl, rfl, .inl rfl, fun l h => by cases h⟩
      · rw [decide_eq_false c1]
        simp only [cond_false, jn, Option.bind_some, Sum.elim_inl]
        rw [decide_eq_false (by omega)]
        exact ⟨_, _, rfl, rfl, .inl rfl, fun l h => by obtain rfl := Option.some.inj h; omega⟩
    · rw [hl]
      cases decide ((64 : Int) < ((L.length : Nat) : Int))
      · exact ⟨_, _, rfl, rfl, .inl rfl, fun l h => by cases h⟩
      · exact ⟨_, _, rfl, rfl, .inl rfl, fun l h => by cases h⟩
end Go.Proofs.YtnhgffhnfegiiaaDoor.Fw
namespace Go.Proofs.YtnhgffhnfegiiaaDoor.Fw
open Go.RowKit
set_option linter.unusedVariables false
set_option linter.unusedSimpArgs false
theorem idx_spl (c : UInt8) (l : List UInt8) : (spl c l = [l] ∧ Go.Lib.index l [c] = -1) ∨ (∃ p r, l = p ++ c :: r ∧ spl c l = p :: spl c r ∧ Go.Lib.index l [c] = (p.length : Int)) := by
  induction l with
  | nil => exact .inl ⟨rfl, rfl⟩
  | cons x xs ih =>
    by_cases h : x = c
    · subst h
      refine .inr ⟨[], xs, rfl, by simp [spl], by simp [Go.Lib.index]⟩
    · have hne : ¬ [c].isPrefixOf (x :: xs) = true := by simp [Ne.symm h]
      have hi : Go.Lib.index (x :: xs) [c] = if (Go.Lib.index xs [c] == -1) = true then -1 else Go.Lib.index xs [c] + 1 := by
        rw [Go.Lib.index, if_neg hne]
      rcases ih with ⟨h1, h2⟩ | ⟨p, r, h1, h2, h3⟩
      · refine .inl ⟨by simp only [spl, if_neg h, h1, preF, List.cons_append, List.nil_append], by rw [hi, h2]; rfl⟩
      · refine .inr ⟨x :: p, r, by rw [h1, List.cons_append], by simp only [spl, if_neg h, h2, preF, List.cons_append, List.nil_append], ?_⟩
        rw [hi, h3, if_neg (by simp), List.length_cons]
        omega
theorem mem_spl (c b : UInt8) (l : List UInt8) (hb : b ≠ c) (h : b ∈ l) : ∃ x ∈ spl c l, b ∈ x := by
  induction l with
  | nil => simp at h
  | cons y ys ih =>
    by_cases hy : y = c
    · subst hy
      have : b ∈ ys := by
        rcases List.mem_cons.1 h with e | e
        · exact absurd e hb
        · exact e
      obtain ⟨x, h1, h2⟩ := ih this
      refine ⟨x, ?_, h2⟩
      simp only [spl, if_true]
      exact List.mem_cons_of_mem _ h1
    · simp only [spl, if_neg hy]
      cases hs : spl c ys with
      | nil => exact absurd hs (spl_ne c ys)
      | cons q qs =>
        simp only [preF]
        rcases List.mem_cons.1 h with e | e
        · exact ⟨_, List.mem_cons_self .., by subst e; simp⟩
        · obtain ⟨x, h1, h2⟩ := ih e
          rw [hs] at h1
          rcases List.mem_cons.1 h1 with e1 | e1
          · exact ⟨_, List.mem_cons_self .., by subst e1; simp [h2]⟩
          · exact ⟨x, List.mem_cons_of_mem _ e1, h2⟩
theorem numR_bad (s : ByteArray) (h : (32 : UInt8) ∈ s.data.toList) : (numR s).2 = false := by
  have key : (s.data.toList.drop (if isNeg s then 1 else 0)).all isDg = false := by
    have hm : (32 : UInt8) ∈ s.data.toList.drop (if isNeg s then 1 else 0) := by
      cases hn : isNeg s
      · simpa using h
      · unfold isNeg at hn
        have hn := of_decide_eq_true hn
        cases hl : s.data.toList with
        | nil => rw [hl] at h; simp at h
        | cons x xs =>
          rw [hl] at h hn
          simp at hn
          subst hn
          rcases List.mem_cons.1 h with e | e
          · exact absurd e (by decide)
          · simpa using e
    rw [List.all_eq_false]
    exact ⟨32, hm, by decide⟩
  unfold numR numD
  rw [if_pos (.inr (.inr (.inr key)))]
theorem numR_nil (s : ByteArray) (h : s.data.toList = []) : (numR s).2 = false := by
  unfold numR numD
  rw [if_pos (.inl (by rw [h]; simp))]
theorem list_loop_bad (L : List ByteArray) (hL : ∀ x ∈ L, x.size ≤ 1000000000) (hn : L.length ≤ 1000000000) (x : ByteArray) (hx : x ∈ L) (hb : (numR x).2 = false) :
    iter (G.s_ReadList.s0 L) (([] : List Int), (0 : Int)) = some (.inr (none, false)) := by
  have h := iter_exit (step := G.s_ReadList.s0 L) (n := L.length) (g := fun o : List Int => o) (fun i o => o.length = i ∧ ∀ k, k < i → (numR (L.getD k default)).2 = true) (fun r => r = ((none : Option (List Int)), false)) ?_ ?_ L.length 0 [] (by omega) ⟨rfl, fun k hk => by omega⟩
  · rcases h with ⟨o, ⟨h1, h3⟩, h2⟩ | ⟨r, h1, h2⟩
    · obtain ⟨i, hi, e⟩ := List.mem_iff_getElem.1 hx
      have := h3 i hi
      rw [List.getD_eq_getElem?_getD, List.getElem?_eq_getElem hi, Option.getD_some, e, hb] at this
      cases this
    · subst h1; exact h2
  · intro i o hi ho
    have hm := hL _ (getD_mem (l := L) (i := i) hi)
    simp only [G.s_ReadList.s0, Int.toNat_natCast]
    rw [decide_eq_true (by omega), cond_true, if_pos ⟨by omega, by omega⟩, p_l01Number _ hm]
    simp only [Option.bind_some, p_l00In]
    cases h2 : (numR (L.getD i default)).2
    · simp only [cond_false, Option.bind_some, cond_true]
      exact .inr ⟨_, rfl, rfl⟩
    · simp only [cond_true, Option.bind_some]
      cases h3 : inR (numR (L.getD i default)).1 (-1000000000000) 1000000000000
      · simp only [Bool.not_false, cond_true]
        exact .inr ⟨_, rfl, rfl⟩
      · simp only [Bool.not_true, cond_false]
        rw [if_pos ⟨by omega, by omega⟩, wrap64 (by omega) (by omega)]
        refine .inl ⟨_, rfl, by simp only [List.length_append, List.length_cons, List.length_nil]; omega, fun k hk => ?_⟩
        by_cases e : k = i
        · subst e; exact h2
        · exact ho.2 k (by omega)
  · intro o ho
    simp only [G.s_ReadList.s0]
    rw [decide_eq_false (by omega), cond_false]
/-- A text with a part that is no number is no list. -/
theorem ReadList_bad (s : ByteArray) (hs : s.size ≤ 1048576) (hne : s.data.toList ≠ [45]) (x : List UInt8) (hx : x ∈ spl 44 s.data.toList) (hb : ∀ y : ByteArray, y.data.toList = x → (numR y).2 = false) : G.i_ReadList s = some (none, false) := by
  unfold G.i_ReadList
  have hn : s ≠ (⟨#[45]⟩ : ByteArray) := fun e => hne (by rw [e])
  rw [decide_eq_false hn]
  simp only [cond_false]
  obtain ⟨L, h0, h2⟩ := p_Split s 44 (by omega)
  obtain ⟨L', h1', h2', h3, h4⟩ := both_Split s 44 (by omega)
  have : L' = L := Option.some.inj (h2'.symm.trans h0)
  subst this
  have hxs : ∀ x ∈ L', x.size ≤ 1000000000 := fun x hx => by have := h3 x hx; omega
  rw [h2']
  simp only [Option.bind_some, list_steps L' hxs]
  rw [← h2] at hx
  obtain ⟨y, hy, e⟩ := List.mem_map.1 hx
  rw [list_loop_bad L' hxs (by omega) y hy (hb y e)]
  rfl
theorem cut_no {s : ByteArray} {c : UInt8} (h : Go.Lib.index s.data.toList [c] = -1) : extCut s ⟨#[c]⟩ = (s, ⟨#[]⟩, false) := by
  unfold extCut
  have h : Go.Lib.index s.data.toList (⟨#[c]⟩ : ByteArray).data.toList = -1 := h
  unfold Go.Lib.cut
  rw [h, if_neg (by omega)]
theorem cut_yes {s : ByteArray} {c : UInt8} {p r : List UInt8} (hl : s.data.toList = p ++ c :: r) (h : Go.Lib.index s.data.toList [c] = (p.length : Int)) : extCut s ⟨#[c]⟩ = (⟨p.toArray⟩, ⟨r.toArray⟩, true) := by
  unfold extCut
  have h : Go.Lib.index s.data.toList (⟨#[c]⟩ : ByteArray).data.toList = (p.length : Int) := h
  unfold Go.Lib.cut
  rw [h, if_pos (by omega), hl]
  have h1 : ((p.length : Int)).toNat = p.length := by omega
  have h2 : (⟨#[c]⟩ : ByteArray).data.toList.length = 1 := rfl
  rw [h1, h2]
  simp
theorem named_bad (s a : ByteArray) (b : Bool) (t : ByteArray) (hs : s.size < 4294967281) (hc : extCut s ⟨#[32]⟩ = (a, t, b)) (hl : G.i_ReadList t = some (none, false)) : G.i_ReadBond s = some (TBond.mk ⟨#[]⟩ 0 0 0, false) := by
  unfold G.i_ReadBond G.i_readNamed G.strings_Cut
  rw [if_pos hs, hc]
  simp only [Option.bind_some, hl]
  rfl
theorem p_ReadBond (s : ByteArray) (hs : s.size ≤ 1048576) : ∃ x b, G.s_ReadBond s = some (x, b) ∧ G.i_ReadBond s = some (x, b) := by
  have hsz := size_data s
  obtain ⟨L, h1, h0⟩ := p_l01Split s 32 (by omega)
  have h1 : G.s_l01Split s (32 : Int) = some L := h1
  have hlen : L.length = (spl 32 s.data.toList).length := by rw [← h0, List.length_map]
  unfold G.s_ReadBond
  rw [h1]
  simp only [Option.bind_some]
  rcases idx_spl 32 s.data.toList with ⟨e1, e2⟩ | ⟨p, r, e1, e2, e3⟩
  · rw [e1] at hlen
    rw [decide_eq_false (by simp only [List.length_cons, List.length_nil] at hlen; omega), cond_false]
    refine ⟨_, _, rfl, named_bad s _ _ _ (by omega) (cut_no e2) ?_⟩
    exact ReadList_bad ⟨#[]⟩ (by show (0 : Nat) ≤ _; omega) (by simp) [] (by simp [spl]) (fun y hy => numR_nil y hy)
  · have hrs : r.length + p.length + 1 = s.size := by rw [hsz, e1]; simp; omega
    have hr : (⟨r.toArray⟩ : ByteArray).data.toList = r := by simp
    have hrz : (⟨r.toArray⟩ : ByteArray).size = r.length := by rw [size_data, hr]
    rcases idx_spl 32 r with ⟨f1, f2⟩ | ⟨p', r', f1, f2, f3⟩
    · rw [e2, f1] at hlen h0
      have hL : L = [⟨p.toArray⟩, ⟨r.toArray⟩] := by
        apply eq_of_data
        rw [h0]
        simp
      subst hL
      have q0 : 0 ≤ (0 : Int) ∧ (0 : Int) < ((2 : Nat) : Int) := ⟨by omega, by omega⟩
      have q1 : 0 ≤ (1 : Int) ∧ (1 : Int) < ((2 : Nat) : Int) := ⟨by omega, by omega⟩
      have hg0 : ([⟨p.toArray⟩, ⟨r.toArray⟩] : List ByteArray).getD 0 default = ⟨p.toArray⟩ := rfl
      have hg1 : ([⟨p.toArray⟩, ⟨r.toArray⟩] : List ByteArray).getD 1 default = ⟨r.toArray⟩ := rfl
      have hl2 : ([⟨p.toArray⟩, ⟨r.toArray⟩] : List ByteArray).length = 2 := rfl
      rw [hl2, hg0, hg1]
      rw [decide_eq_true (by omega)]
      unfold G.i_ReadBond G.i_readNamed G.strings_Cut
      rw [if_pos (by omega : s.size < 4294967281), cut_yes e1 e3]
      obtain ⟨a, t, k1, k2, k3, k4⟩ := p_ReadList ⟨r.toArray⟩ (by omega)
      simp only [cond_true, Option.bind_some, k1, k2, if_pos q0, if_pos q1]
      rcases k3 with rfl | ⟨rfl, rfl⟩
      · obtain ⟨o, ok⟩ := a
        cases o with
        | none =>
          simp only [onO]
          cases ok <;> exact ⟨_, _, rfl, rfl⟩
        | some l =>
          simp only [onO]
          by_cases c3 : ((l.length : Nat) : Int) = 3
          · have u0 : 0 ≤ (0 : Int) ∧ (0 : Int) < ((l.length : Nat) : Int) := ⟨by omega, by omega⟩
            have u1 : 0 ≤ (1 : Int) ∧ (1 : Int) < ((l.length : Nat) : Int) := ⟨by omega, by omega⟩
            have u2 : 0 ≤ (2 : Int) ∧ (2 : Int) < ((l.length : Nat) : Int) := ⟨by omega, by omega⟩
            have hf : fitBond ⟨⟨p.toArray⟩, l.getD 0 default, l.getD 1 default, l.getD 2 default⟩ := by
              show (⟨p.toArray⟩ : ByteArray).size ≤ _
              have : (⟨p.toArray⟩ : ByteArray).size = p.length := by rw [size_data]
              omega
            have g1 := p_l24One _ hf
            have g2 := p_ValidBond _ hf
            simp only at g1 g2
            rw [decide_eq_true c3]
            simp only [if_pos u0, if_pos u1, if_pos u2, g1]
            cases ok
            · exact ⟨_, _, rfl, rfl⟩
            · simp only [cond_true, Option.bind_some, Bool.not_true, cond_false, g2]
              cases bondB ⟨⟨p.toArray⟩, l.getD 0 default, l.getD 1 default, l.getD 2 default⟩ <;> exact ⟨_, _, rfl, rfl⟩
          · rw [decide_eq_false c3]
            cases ok <;> exact ⟨_, _, rfl, rfl⟩
      · exact ⟨_, _, rfl, rfl⟩
    · have hge : 1 ≤ (spl 32 r').length := by
        have := spl_ne 32 r'
        cases hq : spl 32 r' with
        | nil => exact absurd hq this
        | cons a b => simp
      rw [e2, f2] at hlen
      rw [decide_eq_false (by simp only [List.length_cons] at hlen; omega), cond_false]
      refine ⟨_, _, rfl, named_bad s _ _ _ (by omega) (cut_yes e1 e3) ?_⟩
      have hm : (32 : UInt8) ∈ r := by rw [f1]; simp
      obtain ⟨x, hx1, hx2⟩ := mem_spl 44 32 r (by decide) hm
      refine ReadList_bad ⟨r.toArray⟩ (by omega) (by rw [hr]; intro e; rw [e] at hm; simp at hm) x (by rw [hr]; exact hx1) (fun y hy => numR_bad y (by rw [hy]; exact hx2))
theorem law_ReadBond (s : ByteArray) : G.l_FnExactReadBond s = some true := by
  unfold G.l_FnExactReadBond
  by_cases c : (1048576 : Int) < ((s.size : Nat) : Int)
  · rw [decide_eq_true c]; rfl
  · rw [decide_eq_false c]
    obtain ⟨x, b, h1, h2⟩ := p_ReadBond s (by omega)
    simp only [cond_false, h1, h2, Option.bind_some]
    rw [p_eqBond x x, decide_eq_true rfl]
    cases b <;> rfl
theorem ret_FnExactReadBond (v0 : ByteArray) (b0 : v0.size ≤ 9223372036854775807) :
    Ret Tryd.prog 5 none [.c (.v (.string v0))] [] (.c (.v (.bool true))) :=
  ret_l_FnExactReadBond v0 (law_ReadBond v0)
end Go.Proofs.YtnhgffhnfegiiaaDoor.Fw
