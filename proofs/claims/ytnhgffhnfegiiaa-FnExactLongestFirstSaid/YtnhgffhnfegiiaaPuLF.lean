/- What the functions without memory come to. No condition. -/
import Derived.Test.YtnhgffhnfegiiaaGLmb
import Derived.Test.YtnhgffhnfegiiaaFwGf
import Derived.Test.YtnhgffhnfegiiaaFwZb
namespace Go.Proofs.Ytnhgffhnfegiiaa.Fw
open Go.RowKit
set_option linter.unusedVariables false
set_option linter.unusedSimpArgs false
theorem all_getD {a b : List Int} (hl : a.length = b.length) : ((List.range' 0 a.length).all fun i => decide (a.getD i default = b.getD i default)) = decide (a = b) := by
  rw [Bool.eq_iff_iff, List.all_eq_true, decide_eq_true_eq]
  constructor
  · intro h
    refine List.ext_getElem hl fun i h1 h2 => ?_
    have := h i (by simp [List.mem_range'_1]; exact h1)
    simpa [List.getD_eq_getElem?_getD, h1, h2] using this
  · rintro rfl i _
    simp
theorem p_eqInt64S (a b : List Int) (ha : a.length ≤ 1000000000) : G.l_eqInt64S a b = some (decide (a = b)) := by
  unfold G.l_eqInt64S
  by_cases hl : a.length = b.length
  · have hc : decide (((a.length : Nat) : Int) = ((b.length : Nat) : Int)) = true := by simp [hl]
    rw [hc]
    have h := iter_scan (step := G.l_eqInt64S.s0 a b) (n := a.length) (p := fun i => decide (a.getD i default = b.getD i default)) (v := ()) (r := false) ?_ ?_ a.length 0 (by omega)
    · rw [show ((0 : Nat) : Int) = 0 from rfl] at h
      rw [h, all_getD hl]
      cases decide (a = b) <;> rfl
    · intro i hi
      simp only [G.l_eqInt64S.s0]
      have h1 : decide ((i : Int) < ((a.length : Nat) : Int)) = true := by simp; omega
      rw [h1]
      simp only [cond_true]
      rw [if_pos ⟨by omega, by omega⟩, if_pos ⟨by omega, by omega⟩, wrap64 (by omega) (by omega)]
      simp only [Int.toNat_natCast]
      cases decide (a.getD i default = b.getD i default) <;> rfl
    · simp only [G.l_eqInt64S.s0]
      have h1 : decide (((a.length : Nat) : Int) < ((a.length : Nat) : Int)) = false := by simp
      rw [h1]
      rfl
  · have hc : decide (((a.length : Nat) : Int) = ((b.length : Nat) : Int)) = false := by simp; omega
    have hd : decide (a = b) = false := by
      rw [decide_eq_false_iff_not]
      rintro rfl
      exact hl rfl
    rw [hc, hd]
    rfl
end Go.Proofs.Ytnhgffhnfegiiaa.Fw
namespace Go.Proofs.Ytnhgffhnfegiiaa.Fw
open Go.RowKit
set_option linter.unusedVariables false
set_option linter.unusedSimpArgs false
def inR (n lo hi : Int) : Bool := decide (lo ≤ n) && decide (n ≤ hi)
theorem p_within (n lo hi : Int) : G.i_within n lo hi = some (inR n lo hi) := by
  unfold G.i_within inR; cases decide (lo ≤ n) <;> rfl
theorem p_l00In (n lo hi : Int) : G.s_l00In n lo hi = some (inR n lo hi) := by
  unfold G.s_l00In inR; cases decide (lo ≤ n) <;> rfl
theorem p_l01Small (c : Int) : G.s_l01Small c = some (inR c 97 122) := by
  unfold G.s_l01Small inR; cases decide (97 ≤ c) <;> rfl
theorem p_l01Digit (c : Int) : G.s_l01Digit c = some (inR c 48 57) := by
  unfold G.s_l01Digit inR; cases decide (48 ≤ c) <;> rfl
theorem all_getDL {α : Type} [Inhabited α] [DecidableEq α] {a b : List α} (hl : a.length = b.length) : ((List.range' 0 a.length).all fun i => decide (a.getD i default = b.getD i default)) = decide (a = b) := by
  rw [Bool.eq_iff_iff, List.all_eq_true, decide_eq_true_eq]
  constructor
  · intro h
    refine List.ext_getElem hl fun i h1 h2 => ?_
    have := h i (by simp [List.mem_range'_1]; exact h1)
    simpa [List.getD_eq_getElem?_getD, h1, h2] using this
  · rintro rfl i _
    simp
theorem makeOk_of {n : Nat} {b : Nat} (h : n ≤ 1048576) (hb : b ≤ 1000) : makeOk (n : Int) (n : Int) b := by
  unfold makeOk
  have h1 : n * b ≤ 1048576 * 1000 := Nat.mul_le_mul h hb
  have h2 : (b : Int) * (n : Int) = ((n * b : Nat) : Int) := by rw [Int.natCast_mul, Int.mul_comm]
  refine ⟨?_, ?_, ?_, ?_⟩ <;> omega
end Go.Proofs.Ytnhgffhnfegiiaa.Fw
namespace Go.Proofs.Ytnhgffhnfegiiaa.Fw
open Go.RowKit
set_option linter.unusedVariables false
set_option linter.unusedSimpArgs false
theorem p_markInt64S (a : List Int) (hn : a.length ≤ 1000000000) : ∃ o : List Int, o.length = a.length ∧ (∀ j, j < a.length → o.getD j default = 1 + (j : Int)) ∧ G.l_markInt64S a 1 = some (o, 1 + (a.length : Int)) := by
  unfold G.l_markInt64S
  have hh := iter_go (step := G.l_markInt64S.s0) (n := a.length) (A := List Int) (g := fun o => (o, 1 + (a.length : Int))) (fun i o => (o, 1 + (i : Int), (i : Int))) (fun i o => o.length = a.length ∧ ∀ j, j < i → o.getD j default = 1 + (j : Int)) (fun _ => False) ?_ ?_ a.length 0 a (by omega) ⟨rfl, fun j hj => by omega⟩
  · rcases hh with ⟨o, ⟨h1, h2⟩, h⟩ | ⟨r, hr, _⟩
    · refine ⟨o, h1, h2, ?_⟩
      have h : iter G.l_markInt64S.s0 (a, 1, 0) = _ := h
      rw [h]
      rfl
    · exact hr.elim
  · rintro i o hi ⟨h1, h2⟩
    refine .inl ⟨o.set i (1 + (i : Int)), ?_, by simpa using h1, fun j hj => ?_⟩
    · have h3 : decide ((i : Int) < ((o.length : Nat) : Int)) = true := by simp; omega
      simp only [G.l_markInt64S.s0]
      rw [h3]
      simp only [cond_true]
      rw [if_pos ⟨by omega, by omega⟩, wrap64 (by omega) (by omega), wrap64 (by omega) (by omega)]
      simp only [Int.toNat_natCast, Int.natCast_add, Int.natCast_one]
      rw [Int.add_assoc]
    · by_cases e : j = i
      · subst e; exact getD_set_self _ _ _ _ (by omega)
      · have := h2 j (by omega)
        rw [← this]
        simp [List.getD_eq_getElem?_getD, List.getElem?_set, Ne.symm e]
  · rintro o ⟨h1, h2⟩
    have h3 : decide (((a.length : Nat) : Int) < ((o.length : Nat) : Int)) = false := by simp; omega
    simp only [G.l_markInt64S.s0]
    rw [h3]
    rfl
theorem p_heldInt64S (o : List Int) (hn : o.length ≤ 1000000000) (ho : ∀ j, j < o.length → o.getD j default = 1 + (j : Int)) : G.l_heldInt64S o 1 = some (1 + (o.length : Int)) := by
  unfold G.l_heldInt64S
  have hh := iter_go (step := G.l_heldInt64S.s0 o) (n := o.length) (A := Unit) (g := fun _ => 1 + (o.length : Int)) (fun i _ => (1 + (i : Int), (i : Int))) (fun i _ => True) (fun _ => False) ?_ ?_ o.length 0 () (by omega) trivial
  · rcases hh with ⟨_, _, h⟩ | ⟨r, hr, _⟩
    · have h : iter (G.l_heldInt64S.s0 o) (1, 0) = _ := h
      rw [h]
      rfl
    · exact hr.elim
  · rintro i _ hi _
    refine .inl ⟨(), ?_, trivial⟩
    have h3 : decide ((i : Int) < ((o.length : Nat) : Int)) = true := by simp; omega
    simp only [G.l_heldInt64S.s0]
    rw [h3]
    simp only [cond_true]
    rw [if_pos ⟨by omega, by omega⟩, wrap64 (by omega) (by omega), wrap64 (by omega) (by omega)]
    simp only [Int.toNat_natCast, ho i hi, decide_true, cond_true, Int.natCast_add, Int.natCast_one]
    rw [Int.add_assoc]
  · rintro _ _
    have h3 : decide (((o.length : Nat) : Int) < ((o.length : Nat) : Int)) = false := by simp
    simp only [G.l_heldInt64S.s0]
    rw [h3]
    rfl
theorem p_markInt64S_0n : G.l_markInt64S_0n 1 = some 1 := by
  unfold G.l_markInt64S_0n
  have h : iter G.l_markInt64S_0n.s0 () = some (.inl ()) := iter_inr rfl
  rw [h]
  rfl
theorem p_markText (k : Int) (h0 : 0 < k) (h1 : k ≤ 1000000000000) : ∃ t, G.l_markText k = some t := by
  unfold G.l_markText
  rw [show decide (k ≤ 0) = false from by simp; omega]
  simp only [cond_false]
  obtain ⟨r, hr, t, rfl, ht⟩ := iter_by (step := G.l_markText.s0) (fun s => 0 ≤ s.1 ∧ s.1 ≤ 1000000000000 ∧ (s.2.size : Int) + s.1 ≤ 1000000000000) (fun s => s.1.toNat) (fun r => ∃ t : ByteArray, r = .inl t ∧ t.size ≤ 1000000000000) (by
    rintro ⟨x, o⟩ ⟨h2, h3, h4⟩
    simp only at h2 h3 h4
    simp only [G.l_markText.s0]
    by_cases c : 0 < x
    · refine .inl ⟨(IntKind.wrap .i64 (x.tdiv 10), (⟨(bytesU ([(IntKind.wrap .u8 (IntKind.wrap .i64 ((48 : Int) + (x.tmod 10))))] : (List Int))).toArray⟩ : ByteArray) ++ o), ?_, ?_, ?_⟩
      · have hz : (⟨(bytesU ([(IntKind.wrap .u8 (IntKind.wrap .i64 ((48 : Int) + (x.tmod 10))))] : (List Int))).toArray⟩ : ByteArray).size = 1 := rfl
        simp only [c, decide_true, cond_true]
        rw [if_neg (by omega)]
      · have hz : (⟨(bytesU ([(IntKind.wrap .u8 (IntKind.wrap .i64 ((48 : Int) + (x.tmod 10))))] : (List Int))).toArray⟩ : ByteArray).size = 1 := rfl
        have hd : x.tdiv 10 = x / 10 := Int.tdiv_eq_ediv_of_nonneg h2
        simp only [ByteArray.size_append, hz, hd]
        rw [wrap64 (by omega) (by omega)]
        refine ⟨by omega, by omega, by omega⟩
      · have hd : x.tdiv 10 = x / 10 := Int.tdiv_eq_ediv_of_nonneg h2
        simp only [hd]
        rw [wrap64 (by omega) (by omega)]
        omega
    · refine .inr ⟨.inl o, ?_, o, rfl, by omega⟩
      simp [c]) (k, (⟨#[]⟩ : ByteArray)) ⟨by omega, by omega, by show ((0 : Nat) : Int) + k ≤ _; omega⟩
  rw [hr]
  refine ⟨⟨#[109]⟩ ++ t, ?_⟩
  show (if 9223372036854775807 < 1 + t.size then none else some (⟨#[109]⟩ ++ t)) = _
  rw [if_neg (by omega)]
end Go.Proofs.Ytnhgffhnfegiiaa.Fw
namespace Go.Proofs.Ytnhgffhnfegiiaa.Fw
open Go.RowKit
set_option linter.unusedVariables false
set_option linter.unusedSimpArgs false
def chOk (c : Int) : Bool := inR c 97 122 || inR c 48 57
def nameOk (s : ByteArray) : Bool := !(decide (s.size = 0) || decide ((10 : Int) < ((s.size : Nat) : Int))) && (inR (byteAt s 0) 97 122 && (List.range' 0 s.size).all fun i => chOk (byteAt s i))
theorem p_l01Name (s : ByteArray) (hs : s.size ≤ 9223372036854775807) : G.s_l01Name s = some (nameOk s) := by
  have hit : iter (G.s_l01Name.s0 s) 0 = some (if (List.range' 0 s.size).all (fun i => chOk (byteAt s i)) then .inl () else .inr false) := by
    refine iter_scan (step := G.s_l01Name.s0 s) (n := s.size) (p := fun i => chOk (byteAt s i)) (v := ()) (r := false) ?_ ?_ s.size 0 (by omega)
    · intro i hi
      have h1 : decide ((i : Int) < ((s.size : Nat) : Int)) = true := by simp; omega
      have hc : 0 ≤ (i : Int) ∧ (i : Int) < ((s.size : Nat) : Int) := ⟨by omega, by omega⟩
      simp only [G.s_l01Name.s0, h1, cond_true, if_pos hc, p_l01Small, p_l01Digit, Int.toNat_natCast, Option.bind_some, chOk]
      rw [wrap64 (by omega) (by omega)]
      rcases Bool.eq_false_or_eq_true (inR (byteAt s i) 97 122) with h5 | h5 <;> rcases Bool.eq_false_or_eq_true (inR (byteAt s i) 48 57) with h6 | h6 <;> simp [h5, h6]
    · have h1 : decide (((s.size : Nat) : Int) < ((s.size : Nat) : Int)) = false := by simp
      simp only [G.s_l01Name.s0, h1, cond_false]
  unfold G.s_l01Name nameOk
  rw [hit]
  by_cases c0 : s.size = 0
  · simp [c0]
  · by_cases c1 : (10 : Int) < ((s.size : Nat) : Int)
    · simp [c0, c1]
    · have hc : 0 ≤ (0 : Int) ∧ (0 : Int) < ((s.size : Nat) : Int) := ⟨by omega, by omega⟩
      simp only [c0, c1, decide_false, cond_false, Option.bind_some, if_pos hc, p_l01Small, Bool.or_self, Bool.not_false, Bool.true_and]
      cases inR (byteAt s 0) 97 122
      · rfl
      · cases (List.range' 0 s.size).all fun i => chOk (byteAt s i) <;> rfl
theorem lt_not (a b : Int) : decide (a < b) = !decide (b ≤ a) := by
  by_cases h : a < b
  · simp [h, Int.not_le.2 h]
  · simp [h, Int.not_lt.1 h]
theorem p_IsName (s : ByteArray) (hs : s.size ≤ 9223372036854775807) : G.i_IsName s = some (nameOk s) := by
  have hit : iter (G.i_IsName.s0 s) 0 = some (if (List.range' 0 s.size).all (fun i => chOk (byteAt s i)) then .inl () else .inr false) := by
    refine iter_scan (step := G.i_IsName.s0 s) (n := s.size) (p := fun i => chOk (byteAt s i)) (v := ()) (r := false) ?_ ?_ s.size 0 (by omega)
    · intro i hi
      have h1 : decide ((i : Int) < ((s.size : Nat) : Int)) = true := by simp; omega
      have hc : 0 ≤ (i : Int) ∧ (i : Int) < ((s.size : Nat) : Int) := ⟨by omega, by omega⟩
      simp only [G.i_IsName.s0, h1, cond_true, if_pos hc, Int.toNat_natCast, Option.bind_some, chOk, inR]
      rw [wrap64 (by omega) (by omega), lt_not (byteAt s i) 97, lt_not 122 (byteAt s i), lt_not (byteAt s i) 48, lt_not 57 (byteAt s i)]
      by_cases h5 : 97 ≤ byteAt s i <;> by_cases h6 : byteAt s i ≤ 122 <;> by_cases h7 : 48 ≤ byteAt s i <;> by_cases h8 : byteAt s i ≤ 57 <;> simp [h5, h6, h7, h8]
    · have h1 : decide (((s.size : Nat) : Int) < ((s.size : Nat) : Int)) = false := by simp
      simp only [G.i_IsName.s0, h1, cond_false]
  unfold G.i_IsName nameOk
  rw [hit]
  by_cases c0 : s.size = 0
  · simp [c0]
  · by_cases c1 : (10 : Int) < ((s.size : Nat) : Int)
    · have c2 : ¬ ((s.size : Nat) : Int) < 1 := by omega
      simp [c0, c1, c2]
    · have hc : 0 ≤ (0 : Int) ∧ (0 : Int) < ((s.size : Nat) : Int) := ⟨by omega, by omega⟩
      have c2 : ¬ ((s.size : Nat) : Int) < 1 := by omega
      simp only [c0, c1, c2, decide_false, cond_false, Option.bind_some, if_pos hc, Bool.or_self, Bool.not_false, Bool.true_and, inR, lt_not (byteAt s 0) 97, lt_not 122 (byteAt s 0)]
      cases decide (97 ≤ byteAt s 0) <;> cases decide (byteAt s 0 ≤ 122) <;> cases (List.range' 0 s.size).all fun i => chOk (byteAt s i) <;> rfl
end Go.Proofs.Ytnhgffhnfegiiaa.Fw
namespace Go.Proofs.Ytnhgffhnfegiiaa.Fw
open Go.RowKit
set_option linter.unusedVariables false
set_option linter.unusedSimpArgs false
theorem p_toBond (x : TBond) : G.l_toBond x.Name x.Spread x.Open x.Press = some x := rfl
theorem p_eqBond (x y : TBond) : G.l_eqBond x.Name x.Spread x.Open x.Press y.Name y.Spread y.Open y.Press = some (decide (x = y)) := by
  obtain ⟨a0, a1, a2, a3⟩ := x
  obtain ⟨b0, b1, b2, b3⟩ := y
  simp only [G.l_eqBond, TBond.mk.injEq]
  by_cases h0 : a0 = b0 <;> by_cases h1 : a1 = b1 <;> by_cases h2 : a2 = b2 <;> by_cases h3 : a3 = b3 <;> simp [h0, h1, h2, h3]
theorem p_eqBondS (a b : List TBond) (ha : a.length ≤ 1000000000) : G.l_eqBondS a b = some (decide (a = b)) := by
  unfold G.l_eqBondS
  by_cases hl : a.length = b.length
  · have hc : decide (((a.length : Nat) : Int) = ((b.length : Nat) : Int)) = true := by simp [hl]
    rw [hc]
    have h := iter_scan (step := G.l_eqBondS.s0 a b) (n := a.length) (p := fun i => decide (a.getD i default = b.getD i default)) (v := ()) (r := false) ?_ ?_ a.length 0 (by omega)
    · rw [show ((0 : Nat) : Int) = 0 from rfl] at h
      rw [h, all_getDL hl]
      cases decide (a = b) <;> rfl
    · intro i hi
      simp only [G.l_eqBondS.s0]
      have h1 : decide ((i : Int) < ((a.length : Nat) : Int)) = true := decide_eq_true (by omega)
      rw [h1]
      simp only [cond_true]
      rw [if_pos ⟨by omega, by omega⟩, if_pos ⟨by omega, by omega⟩, wrap64 (by omega) (by omega), p_eqBond]
      simp only [Int.toNat_natCast, Option.bind_some]
      cases decide (a.getD i default = b.getD i default) <;> rfl
    · simp only [G.l_eqBondS.s0]
      have h1 : decide (((a.length : Nat) : Int) < ((a.length : Nat) : Int)) = false := by simp
      rw [h1]
      rfl
  · have hc : decide (((a.length : Nat) : Int) = ((b.length : Nat) : Int)) = false := decide_eq_false (by omega)
    have hd : decide (a = b) = false := by
      rw [decide_eq_false_iff_not]
      rintro rfl
      exact hl rfl
    rw [hc, hd]
    rfl
theorem p_toBondS (a : List TBond) (ha : a.length ≤ 1048576) : G.l_toBondS a = some a := by
  unfold G.l_toBondS
  rw [if_pos (makeOk_of ha (by omega))]
  have hh := iter_inv (step := G.l_toBondS.s0 a) (n := a.length) (g := fun o => o) (fun i o => o.length = a.length ∧ ∀ j, j < i → o.getD j default = a.getD j default) ?_ ?_ a.length 0 (List.replicate a.length (TBond.mk (⟨#[]⟩ : ByteArray) (0 : Int) (0 : Int) (0 : Int))) (by omega) ⟨List.length_replicate .., fun j hj => by omega⟩
  · obtain ⟨o, ho, h⟩ := hh
    rw [show ((0 : Nat) : Int) = 0 from rfl] at h
    rw [h]
    show some o = some a
    congr 1
    clear h
    refine List.ext_getElem ho.1 fun i h1 h2 => ?_
    have := ho.2 i h2
    rwa [List.getD_eq_getElem?_getD, List.getD_eq_getElem?_getD, List.getElem?_eq_getElem h1, List.getElem?_eq_getElem h2, Option.getD_some, Option.getD_some] at this
  · rintro i o hi ⟨h1, h2⟩
    refine ⟨o.set i (a.getD i default), ?_, by simpa using h1, fun j hj => ?_⟩
    · simp only [G.l_toBondS.s0]
      have h3 : decide ((i : Int) < ((a.length : Nat) : Int)) = true := decide_eq_true (by omega)
      rw [h3]
      simp only [cond_true]
      rw [if_pos ⟨by omega, by omega⟩, p_toBond]
      simp only [Int.toNat_natCast, Option.bind_some]
      rw [if_pos ⟨by omega, by omega⟩, wrap64 (by omega) (by omega)]
      rfl
    · by_cases e : j = i
      · subst e; exact getD_set_self _ _ _ _ (by omega)
      · have := h2 j (by omega)
        rw [← this]
        simp [List.getD_eq_getElem?_getD, List.getElem?_set, Ne.symm e]
  · rintro o ⟨h1, h2⟩
    simp only [G.l_toBondS.s0]
    have h3 : decide (((a.length : Nat) : Int) < ((a.length : Nat) : Int)) = false := by simp
    rw [h3]
    rfl
def smallBond (x : TBond) : Prop := x.Name.size ≤ 9223372036854775807
theorem p_szBond (x : TBond) (h : smallBond x) (left : Int) (h1 : 0 ≤ left) (h2 : left ≤ 1048576) : ∃ q, G.l_szBond x.Name x.Spread x.Open x.Press left = some q ∧ q ≤ left := by
  have ha0 := h
  unfold smallBond at ha0
  unfold G.l_szBond
  rw [wrap64 (by omega) (by omega)]
  by_cases c0 : left - (x.Name.size : Int) < 0
  · exact ⟨-1, by rw [decide_eq_true c0]; rfl, by omega⟩
  · rw [decide_eq_false c0]
    exact ⟨left - (x.Name.size : Int), by rfl, by omega⟩
theorem p_szBondS (a : List TBond) (ha : ∀ x ∈ a, smallBond x) (hn : a.length ≤ 9223372036854775807) : ∃ q, G.l_szBondS a 1048576 = some q ∧ (0 ≤ q → a.length ≤ 1048576) := by
  unfold G.l_szBondS
  rw [wrap64 (by omega) (by omega)]
  by_cases c1 : (1048576 : Int) - (a.length : Int) < 0
  · exact ⟨-1, by rw [decide_eq_true c1]; rfl, by omega⟩
  · rw [decide_eq_false c1]
    simp only [cond_false]
    have hh := iter_exit (step := G.l_szBondS.s0 a) (n := a.length) (g := fun o => o) (fun i l => 0 ≤ l ∧ l ≤ 1048576) (fun r => r = -1) ?_ ?_ a.length 0 (1048576 - (a.length : Int)) (by omega) ⟨by omega, by omega⟩
    · rw [show ((0 : Nat) : Int) = 0 from rfl] at hh
      rcases hh with ⟨l, _, h⟩ | ⟨r, _, h⟩
      · exact ⟨l, by rw [h]; rfl, fun _ => by omega⟩
      · exact ⟨r, by rw [h]; rfl, fun _ => by omega⟩
    · rintro i l hi ⟨h1, h2⟩
      have h3 : decide ((i : Int) < ((a.length : Nat) : Int)) = true := decide_eq_true (by omega)
      have hx : smallBond (a.getD i default) := by
        rw [List.getD_eq_getElem?_getD, List.getElem?_eq_getElem hi, Option.getD_some]
        exact ha _ (List.getElem_mem hi)
      obtain ⟨q, h4, h5⟩ := p_szBond _ hx l h1 h2
      simp only [G.l_szBondS.s0]
      rw [h3]
      simp only [cond_true]
      rw [if_pos ⟨by omega, by omega⟩, wrap64 (by omega) (by omega)]
      simp only [Int.toNat_natCast]
      rw [h4]
      by_cases c2 : q < 0
      · exact .inr ⟨-1, by rw [Option.bind_some, decide_eq_true c2]; rfl, rfl⟩
      · exact .inl ⟨q, by rw [Option.bind_some, decide_eq_false c2]; rfl, by omega, by omega⟩
    · rintro l _
      simp only [G.l_szBondS.s0]
      have h3 : decide (((a.length : Nat) : Int) < ((a.length : Nat) : Int)) = false := by simp
      rw [h3]
      rfl
theorem s_markBondS (o : List TBond) (i : Nat) (k : Int) (hi : i < o.length) (h0 : 0 < k) (h1 : k ≤ 100000000000) (hn : o.length ≤ 1000000000) : ∃ o' : List TBond, o'.length = o.length ∧ G.l_markBondS.s0 (o, k, (i : Int)) = some (.inl (o', k + 4, ((i + 1 : Nat) : Int))) := by
  obtain ⟨t0, e0⟩ := p_markText (k) (by omega) (by omega)
  have h3 : decide ((i : Int) < ((o.length : Nat) : Int)) = true := decide_eq_true (by omega)
  have w : ∀ x : Int, 0 ≤ x → x ≤ 1000000000000 → IntKind.wrap .i64 x = x := fun x a b => wrap64 (by omega) (by omega)
  simp only [G.l_markBondS.s0, w (k + 1) (by omega) (by omega), w (k + 1 + 1) (by omega) (by omega), w (k + 1 + 1 + 1) (by omega) (by omega), w (k + 1 + 1 + 1 + 1) (by omega) (by omega), w ((i : Int) + 1) (by omega) (by omega), h3, cond_true, e0, Option.bind_some, List.length_set]
  have hc : 0 ≤ (i : Int) ∧ (i : Int) < ((o.length : Nat) : Int) := ⟨by omega, by omega⟩
  simp only [if_pos hc]
  refine ⟨_, ?_, by rw [show k + 1 + 1 + 1 + 1 = k + 4 from by omega]; rfl⟩
  simp
theorem p_markBondS (a : List TBond) (hn : a.length ≤ 1000000000) : ∃ o : List TBond, o.length = a.length ∧ G.l_markBondS a 1 = some (o, 1 + 4 * (a.length : Int)) := by
  unfold G.l_markBondS
  have hh := iter_go (step := G.l_markBondS.s0) (n := a.length) (A := List TBond) (g := fun o => (o, 1 + 4 * (a.length : Int))) (fun i o => (o, 1 + 4 * (i : Int), (i : Int))) (fun i o => o.length = a.length) (fun _ => False) ?_ ?_ a.length 0 a (by omega) rfl
  · rcases hh with ⟨o, h1, h⟩ | ⟨r, hr, _⟩
    · refine ⟨o, h1, ?_⟩
      have h : iter G.l_markBondS.s0 (a, 1, 0) = _ := h
      rw [h]
      rfl
    · exact hr.elim
  · rintro i o hi h1
    obtain ⟨o', h2, h3⟩ := s_markBondS o i (1 + 4 * (i : Int)) (by omega) (by omega) (by omega) (by omega)
    refine .inl ⟨o', ?_, by omega⟩
    rw [h3]
    congr 4
    all_goals omega
  · rintro o h1
    have h3 : decide (((a.length : Nat) : Int) < ((o.length : Nat) : Int)) = false := decide_eq_false (by omega)
    simp only [G.l_markBondS.s0]
    rw [h3]
    rfl
end Go.Proofs.Ytnhgffhnfegiiaa.Fw
namespace Go.Proofs.Ytnhgffhnfegiiaa.Fw
open Go.RowKit
set_option linter.unusedVariables false
set_option linter.unusedSimpArgs false
def fitBond (x : TBond) : Prop := smallBond x
def bondR (x : TBond) : Prop := 1 ≤ x.Spread ∧ x.Spread ≤ 120 ∧ x.Spread ≤ x.Open ∧ x.Open ≤ 240 ∧ 1 ≤ x.Press ∧ x.Press ≤ 1440
theorem p_bondOne (x : TBond) (hx : fitBond x) : ∃ b, G.s_l24One x.Name x.Spread x.Open x.Press = some b ∧ G.i_ValidBond x.Name x.Spread x.Open x.Press = some b ∧ (b = true → bondR x) := by
  have h1 : x.Name.size ≤ 9223372036854775807 := hx
  refine ⟨nameOk x.Name && inR x.Spread 1 120 && inR x.Open x.Spread 240 && inR x.Press 1 1440, ?_, ?_, ?_⟩
  · simp only [G.s_l24One, p_l01Name x.Name h1, p_l00In, Option.bind_some]
    cases nameOk x.Name <;> cases inR x.Spread 1 120 <;> cases inR x.Open x.Spread 240 <;> cases inR x.Press 1 1440 <;> rfl
  · simp only [G.i_ValidBond, p_IsName x.Name h1, p_within, Option.bind_some]
    cases nameOk x.Name <;> cases inR x.Spread 1 120 <;> cases inR x.Open x.Spread 240 <;> cases inR x.Press 1 1440 <;> rfl
  · intro h
    simp only [Bool.and_eq_true, inR, decide_eq_true_eq] at h
    unfold bondR
    omega
theorem fit_getB {a : List TBond} (ha : ∀ x ∈ a, fitBond x) {i : Nat} (hi : i < a.length) : fitBond (a.getD i default) := by
  rw [List.getD_eq_getElem?_getD, List.getElem?_eq_getElem hi, Option.getD_some]
  exact ha _ (List.getElem_mem hi)
/-- Both lists' tests tell the same. -/
theorem p_bonds (a : List TBond) (ha : ∀ x ∈ a, fitBond x) (hn : a.length ≤ 1000000000) : ∃ b, G.s_l24Ok a = some b ∧ G.i_ValidBonds a = some b ∧ (b = true → a.length ≤ 12 ∧ ∀ i, i < a.length → bondR (a.getD i default)) := by
  have hstep : ∀ i : Nat, i < a.length → ∃ b, G.s_l24Ok.s0 a (i : Int) = (if b = true then some (.inl ((i + 1 : Nat) : Int)) else some (.inr (.inr false))) ∧ G.i_ValidBonds.s0 a (i : Int) = (if b = true then some (.inl ((i + 1 : Nat) : Int)) else some (.inr (.inr false))) ∧ (b = true → bondR (a.getD i default)) := by
    intro i hi
    obtain ⟨b, h1, h2, h3⟩ := p_bondOne _ (fit_getB ha hi)
    have hd : decide ((i : Int) < ((a.length : Nat) : Int)) = true := by simp; omega
    have hc : 0 ≤ (i : Int) ∧ (i : Int) < ((a.length : Nat) : Int) := ⟨by omega, by omega⟩
    have hw : IntKind.wrap .i64 ((i : Int) + 1) = (i : Int) + 1 := wrap64 (by omega) (by omega)
    have hw2 : IntKind.wrap .i64 ((i : Int) - 1) = (i : Int) - 1 := wrap64 (by omega) (by omega)
    by_cases hb : b = true
    · subst hb
      by_cases h0 : 0 < (i : Int)
      · have hc2 : 0 ≤ (i : Int) - 1 ∧ (i : Int) - 1 < ((a.length : Nat) : Int) := ⟨by omega, by omega⟩
        refine ⟨strLt (a.getD ((i : Int) - 1).toNat default).Name (a.getD i default).Name, ?_, ?_, fun _ => h3 rfl⟩
        · simp only [G.s_l24Ok.s0, hd, cond_true, if_pos hc, Int.toNat_natCast, h1, Option.bind_some, h0, decide_true, hw, hw2, if_pos hc2]
          rcases Bool.eq_false_or_eq_true (strLt (a.getD ((i : Int) - 1).toNat default).Name (a.getD i default).Name) with e | e <;> simp [e]
        · simp only [G.i_ValidBonds.s0, hd, cond_true, if_pos hc, Int.toNat_natCast, h2, Option.bind_some, h0, decide_true, hw, hw2, if_pos hc2]
          rcases Bool.eq_false_or_eq_true (strLt (a.getD ((i : Int) - 1).toNat default).Name (a.getD i default).Name) with e | e <;> simp [e]
      · refine ⟨true, ?_, ?_, fun _ => h3 rfl⟩
        · simp only [G.s_l24Ok.s0, hd, cond_true, if_pos hc, Int.toNat_natCast, h1, Option.bind_some, h0, decide_false, cond_false, hw]
          simp
        · simp only [G.i_ValidBonds.s0, hd, cond_true, if_pos hc, Int.toNat_natCast, h2, Option.bind_some, h0, decide_false, cond_false, hw]
          simp
    · have hb : b = false := by simpa using hb
      subst hb
      refine ⟨false, ?_, ?_, fun h => by cases h⟩
      · simp only [G.s_l24Ok.s0, hd, cond_true, if_pos hc, Int.toNat_natCast, h1, Option.bind_some, cond_false]
        simp
      · simp only [G.i_ValidBonds.s0, hd, cond_true, if_pos hc, Int.toNat_natCast, h2, Option.bind_some, cond_false]
        simp
  have hz : decide (((a.length : Nat) : Int) < ((a.length : Nat) : Int)) = false := by simp
  have hend1 : G.s_l24Ok.s0 a (a.length : Int) = some (.inr (.inl ())) := by simp only [G.s_l24Ok.s0, hz, cond_false]
  have hend2 : G.i_ValidBonds.s0 a (a.length : Int) = some (.inr (.inl ())) := by simp only [G.i_ValidBonds.s0, hz, cond_false]
  have main : ∀ m k : Nat, k + m = a.length → ∃ e, iter (G.s_l24Ok.s0 a) (k : Int) = some e ∧ iter (G.i_ValidBonds.s0 a) (k : Int) = some e ∧ ((e = .inl () ∧ ∀ j, k ≤ j → j < a.length → bondR (a.getD j default)) ∨ e = .inr false) := by
    intro m
    induction m with
    | zero =>
      intro k hk
      have : k = a.length := by omega
      subst this
      exact ⟨_, iter_inr hend1, iter_inr hend2, .inl ⟨rfl, fun j h1 h2 => by omega⟩⟩
    | succ m ih =>
      intro k hk
      obtain ⟨b, h1, h2, h3⟩ := hstep k (by omega)
      cases b with
      | true =>
        obtain ⟨e, h4, h5, h6⟩ := ih (k + 1) (by omega)
        refine ⟨e, (iter_inl (by simpa using h1)).trans h4, (iter_inl (by simpa using h2)).trans h5, h6.imp (fun ⟨h7, h8⟩ => ⟨h7, fun j h9 h10 => ?_⟩) id⟩
        by_cases e : j = k
        · subst e; exact h3 rfl
        · exact h8 j (by omega) h10
      | false => exact ⟨_, iter_inr (by simpa using h1), iter_inr (by simpa using h2), .inr rfl⟩
  obtain ⟨e, h1, h2, h3⟩ := main a.length 0 (by omega)
  have h1 : iter (G.s_l24Ok.s0 a) 0 = some e := h1
  have h2 : iter (G.i_ValidBonds.s0 a) 0 = some e := h2
  rcases h3 with ⟨rfl, h4⟩ | rfl
  · refine ⟨decide (((a.length : Nat) : Int) ≤ 12), ?_, ?_, fun h => ⟨by have := of_decide_eq_true h; omega, fun i hi => h4 i (Nat.zero_le _) hi⟩⟩
    · unfold G.s_l24Ok; rw [h1]; rfl
    · unfold G.i_ValidBonds; rw [h2]; rfl
  · refine ⟨false, ?_, ?_, fun h => by cases h⟩
    · unfold G.s_l24Ok; rw [h1]; rfl
    · unfold G.i_ValidBonds; rw [h2]; rfl
end Go.Proofs.Ytnhgffhnfegiiaa.Fw
namespace Go.Proofs.Ytnhgffhnfegiiaa.Fw
open Go.RowKit
set_option linter.unusedVariables false
set_option linter.unusedSimpArgs false
/-- Where a run from the end stops: the places from there on hold `f`. -/
def scanR (f : Nat → Bool) : Nat → Nat
  | 0 => 0
  | n + 1 => if f n = true then scanR f n else n + 1
theorem scanR_le (f : Nat → Bool) (n : Nat) : scanR f n ≤ n := by
  induction n with
  | zero => exact Nat.le_refl _
  | succ n ih =>
    unfold scanR
    split
    · omega
    · omega
theorem scanR_ext {f g : Nat → Bool} (n : Nat) (h : ∀ j, j < n → f j = g j) : scanR f n = scanR g n := by
  induction n with
  | zero => rfl
  | succ n ih =>
    unfold scanR
    rw [h n (by omega), ih fun j hj => h j (by omega)]
/-- A loop downwards. -/
theorem iter_down {S V R : Type} {step : S → Option (S ⊕ (V ⊕ R))} (f : Nat → Bool) (st : Nat → S) (g : Nat → V) (h0 : step (st 0) = some (.inr (.inl (g 0)))) :
    ∀ n : Nat, (∀ j, j < n → step (st (j + 1)) = if f j = true then some (.inl (st j)) else some (.inr (.inl (g (j + 1))))) → iter step (st n) = some (.inl (g (scanR f n))) := by
  intro n
  induction n with
  | zero => intro _; exact iter_inr h0
  | succ n ih =>
    intro hs
    have h1 := hs n (by omega)
    unfold scanR
    by_cases hf : f n = true
    · rw [if_pos hf] at h1 ⊢
      rw [iter_inl h1, ih fun j hj => hs j (by omega)]
    · rw [if_neg hf] at h1 ⊢
      exact iter_inr h1
def insT (lt : Int → Int → Bool) (x : Int) (p : List Int) : List Int :=
  p.take (scanR (fun j => lt x (p.getD j default)) p.length) ++ x :: p.drop (scanR (fun j => lt x (p.getD j default)) p.length)
theorem insT_length (lt : Int → Int → Bool) (x : Int) (p : List Int) : (insT lt x p).length = p.length + 1 := by
  have := scanR_le (fun j => lt x (p.getD j default)) p.length
  simp only [insT, List.length_append, List.length_take, List.length_cons, List.length_drop]
  omega
theorem insT_mem {lt : Int → Int → Bool} {x y : Int} {p : List Int} (h : y ∈ insT lt x p) : y = x ∨ y ∈ p := by
  simp only [insT, List.mem_append, List.mem_cons] at h
  rcases h with h | h | h
  · exact .inr (List.mem_of_mem_take h)
  · exact .inl h
  · exact .inr (List.mem_of_mem_drop h)
/-- The places 0..n-1, put in one after another. -/
def sortedT (lt : Int → Int → Bool) : Nat → List Int
  | 0 => []
  | n + 1 => insT lt (n : Int) (sortedT lt n)
theorem sortedT_length (lt : Int → Int → Bool) (n : Nat) : (sortedT lt n).length = n := by
  induction n with
  | zero => rfl
  | succ n ih => simp only [sortedT, insT_length, ih]
theorem sortedT_mem (lt : Int → Int → Bool) (n : Nat) : ∀ y ∈ sortedT lt n, 0 ≤ y ∧ y < (n : Int) := by
  induction n with
  | zero => intro y hy; cases hy
  | succ n ih =>
    intro y hy
    rcases insT_mem hy with rfl | h
    · omega
    · have := ih y h; omega
theorem sortedT_get (lt : Int → Int → Bool) (n : Nat) {j : Nat} (hj : j < n) : 0 ≤ (sortedT lt n).getD j default ∧ (sortedT lt n).getD j default < (n : Int) := by
  rw [List.getD_eq_getElem?_getD, List.getElem?_eq_getElem (by rw [sortedT_length]; exact hj), Option.getD_some]
  exact sortedT_mem lt n _ (List.getElem_mem _)
/-- One step downwards of a value within a list. -/
theorem swap_down (p rest : List Int) (x : Int) (j : Nat) (hj : j < p.length) :
    ((p.take (j + 1) ++ x :: p.drop (j + 1) ++ rest).getD j default = p.getD j default) ∧ ((p.take (j + 1) ++ x :: p.drop (j + 1) ++ rest).getD (j + 1) default = x) ∧
    (((p.take (j + 1) ++ x :: p.drop (j + 1) ++ rest).set (j + 1) (p.getD j default)).set j x = p.take j ++ x :: p.drop j ++ rest) := by
  obtain ⟨u, y, w, rfl, hu⟩ : ∃ u y w, p = u ++ y :: w ∧ u.length = j := by
    refine ⟨p.take j, p[j], p.drop (j + 1), ?_, by rw [List.length_take]; omega⟩
    rw [List.getElem_cons_drop, List.take_append_drop]
  subst hu
  have e1 : (u ++ y :: w).take (u.length + 1) = u ++ [y] := by
    rw [List.take_append, List.take_of_length_le (by omega)]; simp
  have e2 : (u ++ y :: w).drop (u.length + 1) = w := by
    rw [List.drop_append]; simp
  have e3 : (u ++ y :: w).take u.length = u := by rw [List.take_append]; simp
  have e4 : (u ++ y :: w).drop u.length = y :: w := by rw [List.drop_append]; simp
  rw [e1, e2, e3, e4]
  refine ⟨?_, ?_, ?_⟩
  · simp [List.getD_eq_getElem?_getD]
  · simp [List.getD_eq_getElem?_getD, List.getElem?_append]
  · simp [List.set_append, List.getD_eq_getElem?_getD]
def datT (lt : Int → Int → Bool) (n i : Nat) : List Int := sortedT lt i ++ (List.range' i (n - i)).map Int.ofNat
theorem datT_length (lt : Int → Int → Bool) (n i : Nat) (h : i ≤ n) : (datT lt n i).length = n := by
  simp only [datT, List.length_append, sortedT_length, List.length_map, List.length_range']
  omega
theorem datT_open (lt : Int → Int → Bool) (n i : Nat) (h : i < n) : datT lt n i = (sortedT lt i).take i ++ (i : Int) :: (sortedT lt i).drop i ++ (List.range' (i + 1) (n - (i + 1))).map Int.ofNat := by
  have e : n - i = (n - (i + 1)) + 1 := by omega
  rw [datT, e, List.range'_succ, List.take_of_length_le (by rw [sortedT_length]; exact Nat.le_refl _), List.drop_eq_nil_of_le (by rw [sortedT_length]; exact Nat.le_refl _)]
  simp
theorem idx_succ (n : Nat) : (List.range' 0 n).map Int.ofNat ++ [(n : Int)] = (List.range' 0 (n + 1)).map Int.ofNat := by
  rw [List.range'_1_concat]; simp
end Go.Proofs.Ytnhgffhnfegiiaa.Fw
namespace Go.Proofs.Ytnhgffhnfegiiaa.Fw
open Go.RowKit
set_option linter.unusedVariables false
set_option linter.unusedSimpArgs false
def soonB (a : List TBond) (x y : Int) : Bool := decide ((a.getD y.toNat default).Press < (a.getD x.toNat default).Press)
def tameB (a : List TBond) : Prop := a.length ≤ 12 ∧ ∀ i, i < a.length → bondR (a.getD i default)
theorem p_longest_1 (a : List TBond) (ha : tameB a) (x y : Nat) (hx : x < a.length) (hy : y < a.length) : ∃ r, G.i_LongestFirst_1 (x : Int) (y : Int) a = some r ∧ decide (r < 0) = soonB a x y := by
  have h1 := ha.2 x hx
  have h2 := ha.2 y hy
  unfold bondR at h1 h2
  simp only [G.i_LongestFirst_1, soonB, Int.toNat_natCast]
  rw [if_pos ⟨by omega, by omega⟩, if_pos ⟨by omega, by omega⟩, wrap64 (by omega) (by omega)]
  refine ⟨_, rfl, ?_⟩
  rw [Bool.eq_iff_iff]
  simp only [decide_eq_true_eq]
  omega
theorem s1_insertionB (a : List TBond) (ha : tameB a) (i : Nat) (hi : i < a.length) :
    iter (G.slices_insertionSortCmpFunc_int64_3_i_LongestFirst_1.s1 0 a) (datT (soonB a) a.length i, (i : Int)) = some (.inl (datT (soonB a) a.length (i + 1))) := by
  have hn := ha.1
  have hl := sortedT_length (soonB a) i
  rw [datT_open _ _ _ hi]
  generalize hr : (List.range' (i + 1) (a.length - (i + 1))).map Int.ofNat = rest
  have hrl : rest.length = a.length - (i + 1) := by rw [← hr]; simp
  have hh := iter_down (step := G.slices_insertionSortCmpFunc_int64_3_i_LongestFirst_1.s1 0 a) (fun j => soonB a i ((sortedT (soonB a) i).getD j default)) (fun j => ((sortedT (soonB a) i).take j ++ (i : Int) :: (sortedT (soonB a) i).drop j ++ rest, (j : Int))) (fun j => (sortedT (soonB a) i).take j ++ (i : Int) :: (sortedT (soonB a) i).drop j ++ rest) rfl i fun j hj => ?_
  · rw [hh, datT, hr]
    simp only [sortedT, insT, hl]
  · obtain ⟨w1, w2, w3⟩ := swap_down (sortedT (soonB a) i) rest (i : Int) j (by omega)
    have hg := sortedT_get (soonB a) i hj
    have hL : ((sortedT (soonB a) i).take (j + 1) ++ (i : Int) :: (sortedT (soonB a) i).drop (j + 1) ++ rest).length = a.length := by
      simp only [List.length_append, List.length_take, List.length_cons, List.length_drop]
      omega
    generalize (sortedT (soonB a) i).take (j + 1) ++ (i : Int) :: (sortedT (soonB a) i).drop (j + 1) ++ rest = L at *
    generalize (sortedT (soonB a) i).take j ++ (i : Int) :: (sortedT (soonB a) i).drop j ++ rest = L' at *
    generalize (sortedT (soonB a) i).getD j default = y at *
    have h1 : decide ((0 : Int) < ((j + 1 : Nat) : Int)) = true := decide_eq_true (by omega)
    have h2 : IntKind.wrap .i64 (((j + 1 : Nat) : Int) - 1) = (j : Int) := by rw [wrap64 (by omega) (by omega)]; omega
    obtain ⟨yy, rfl⟩ : ∃ yy : Nat, y = (yy : Int) := ⟨y.toNat, by omega⟩
    obtain ⟨r, hr1, hr2⟩ := p_longest_1 a ha i yy hi (by omega)
    simp only [G.slices_insertionSortCmpFunc_int64_3_i_LongestFirst_1.s1, h1, cond_true, h2, Int.toNat_natCast, hL, List.length_set]
    have hc1 : 0 ≤ ((j + 1 : Nat) : Int) ∧ ((j + 1 : Nat) : Int) < ((a.length : Nat) : Int) := ⟨by omega, by omega⟩
    have hc2 : 0 ≤ (j : Int) ∧ (j : Int) < ((a.length : Nat) : Int) := ⟨by omega, by omega⟩
    simp only [if_pos hc1, if_pos hc2, w1, w2, hr1, Option.bind_some, hr2, w3]
    cases soonB a i yy <;> rfl
theorem p_insertionB (a : List TBond) (ha : tameB a) : G.slices_insertionSortCmpFunc_int64_3_i_LongestFirst_1 ((List.range' 0 a.length).map Int.ofNat) 0 (a.length : Int) a = some (sortedT (soonB a) a.length) := by
  have hn := ha.1
  unfold G.slices_insertionSortCmpFunc_int64_3_i_LongestFirst_1
  have hw : IntKind.wrap .i64 ((0 : Int) + 1) = ((1 : Nat) : Int) := wrap64 (by omega) (by omega)
  rw [hw]
  have hend : datT (soonB a) a.length a.length = sortedT (soonB a) a.length := by simp [datT]
  by_cases h0 : a.length = 0
  · rw [h0]
    have h : iter (G.slices_insertionSortCmpFunc_int64_3_i_LongestFirst_1.s0 0 ((0 : Nat) : Int) a) ((List.range' 0 0).map Int.ofNat, ((1 : Nat) : Int)) = some (.inl []) := iter_inr rfl
    rw [h]
    rfl
  · have hs : (List.range' 0 a.length).map Int.ofNat = datT (soonB a) a.length 1 := by
      have e : a.length = (a.length - 1) + 1 := by omega
      simp only [datT, sortedT, insT, List.length_nil, scanR, List.take_nil, List.drop_nil, List.nil_append]
      conv => lhs; rw [e, List.range'_succ]
      simp
    have hh := iter_go (step := G.slices_insertionSortCmpFunc_int64_3_i_LongestFirst_1.s0 0 (a.length : Int) a) (n := a.length) (A := Unit) (g := fun _ => sortedT (soonB a) a.length) (fun i _ => (datT (soonB a) a.length i, (i : Int))) (fun i _ => True) (fun _ => False) ?_ ?_ (a.length - 1) 1 () (by omega) trivial
    · rcases hh with ⟨_, _, h⟩ | ⟨r, hr, _⟩
      · rw [hs, h]
        rfl
      · exact hr.elim
    · rintro i _ hi _
      refine .inl ⟨(), ?_, trivial⟩
      have h3 : decide ((i : Int) < ((a.length : Nat) : Int)) = true := decide_eq_true (by omega)
      have hw : IntKind.wrap .i64 ((i : Int) + 1) = ((i + 1 : Nat) : Int) := by rw [wrap64 (by omega) (by omega)]; omega
      simp only [G.slices_insertionSortCmpFunc_int64_3_i_LongestFirst_1.s0, h3, cond_true, s1_insertionB a ha i hi, jn, hw, Option.bind_some, Sum.elim_inl]
    · rintro _ _
      have h3 : decide (((a.length : Nat) : Int) < ((a.length : Nat) : Int)) = false := by simp
      simp only [G.slices_insertionSortCmpFunc_int64_3_i_LongestFirst_1.s0, h3, cond_false, hend]
theorem p_sortStableB (a : List TBond) (ha : tameB a) : G.slices_SortStableFunc_int64_int64_1_i_LongestFirst_1 ((List.range' 0 a.length).map Int.ofNat) a = some (sortedT (soonB a) a.length) := by
  have hn := ha.1
  have h20 : decide ((20 : Int) ≤ (a.length : Int)) = false := decide_eq_false (by omega)
  have h21 : decide ((20 : Int) < (a.length : Int)) = false := decide_eq_false (by omega)
  have h1 : iter (G.slices_stableCmpFunc_int64_2_i_LongestFirst_1.s0 (a.length : Int) a) ((List.range' 0 a.length).map Int.ofNat, (0 : Int), (20 : Int)) = some (.inl ((List.range' 0 a.length).map Int.ofNat, (0 : Int))) := iter_inr (by
    simp only [G.slices_stableCmpFunc_int64_2_i_LongestFirst_1.s0, h20, cond_false])
  have h2 : iter (G.slices_stableCmpFunc_int64_2_i_LongestFirst_1.s1 (a.length : Int)) (20 : Int) = some (.inl ()) := iter_inr (by
    simp only [G.slices_stableCmpFunc_int64_2_i_LongestFirst_1.s1, h21, cond_false])
  simp only [G.slices_SortStableFunc_int64_int64_1_i_LongestFirst_1, G.slices_stableCmpFunc_int64_2_i_LongestFirst_1, List.length_map, List.length_range', h1, jn, Option.bind_some, Sum.elim_inl, p_insertionB a ha, sortedT_length, if_true, h2]
theorem s1_l14Order (a : List TBond) (d : List Int) (hd : d = a.map fun x => x.Press) (i : Nat) (hi : i < a.length) (hn : a.length ≤ 1000000) :
    iter (G.s_l14Order.s1 d (sortedT (soonB a) i) (i : Int)) ((((sortedT (soonB a) i).length : Nat) : Int)) = some (.inl ((scanR (fun j => soonB a i ((sortedT (soonB a) i).getD j default)) (sortedT (soonB a) i).length : Nat) : Int)) := by
  refine iter_down (step := G.s_l14Order.s1 d (sortedT (soonB a) i) (i : Int)) (fun j => soonB a i ((sortedT (soonB a) i).getD j default)) (fun j => ((j : Nat) : Int)) (fun j => ((j : Nat) : Int)) rfl _ fun j hj => ?_
  rw [sortedT_length] at hj
  have hg := sortedT_get (soonB a) i hj
  have hdl : d.length = a.length := by rw [hd, List.length_map]
  have hdg : ∀ k : Nat, k < a.length → d.getD k default = (a.getD k default).Press := fun k hk => by
    subst hd
    simp [List.getD_eq_getElem?_getD, hk]
  have h1 : decide ((0 : Int) < ((j + 1 : Nat) : Int)) = true := decide_eq_true (by omega)
  have h2 : IntKind.wrap .i64 (((j + 1 : Nat) : Int) - 1) = (j : Int) := by rw [wrap64 (by omega) (by omega)]; omega
  simp only [G.s_l14Order.s1, h1, cond_true, h2, sortedT_length, Int.toNat_natCast, hdl]
  rw [if_pos ⟨by omega, by omega⟩, if_pos ⟨by omega, by omega⟩, if_pos ⟨by omega, by omega⟩, hdg _ (by omega), hdg _ (by omega)]
  simp only [Option.bind_some]
  change (bif soonB a i ((sortedT (soonB a) i).getD j default) then _ else _) = _
  cases soonB a i ((sortedT (soonB a) i).getD j default) <;> rfl
theorem p_l14Order (a : List TBond) (hn : a.length ≤ 1000000) : G.s_l14Order (a.map fun x => x.Press) = some (sortedT (soonB a) a.length) := by
  unfold G.s_l14Order
  have hdl : (a.map fun x => x.Press).length = a.length := List.length_map _
  generalize hd : (a.map fun x => x.Press) = d at *
  have hh := iter_go (step := G.s_l14Order.s0 d) (n := a.length) (A := Unit) (g := fun _ => sortedT (soonB a) a.length) (fun i _ => (sortedT (soonB a) i, (i : Int))) (fun i _ => True) (fun _ => False) ?_ ?_ a.length 0 () (by omega) trivial
  · rcases hh with ⟨_, _, h⟩ | ⟨r, hr, _⟩
    · have h : iter (G.s_l14Order.s0 d) ([], 0) = _ := h
      rw [h]
      rfl
    · exact hr.elim
  · rintro i _ hi _
    refine .inl ⟨(), ?_, trivial⟩
    have h3 : decide ((i : Int) < ((d.length : Nat) : Int)) = true := decide_eq_true (by omega)
    have hs := scanR_le (fun j => soonB a i ((sortedT (soonB a) i).getD j default)) (sortedT (soonB a) i).length
    have hl := sortedT_length (soonB a) i
    have hw : IntKind.wrap .i64 ((i : Int) + 1) = ((i + 1 : Nat) : Int) := by rw [wrap64 (by omega) (by omega)]; omega
    simp only [G.s_l14Order.s0, h3, cond_true, s1_l14Order a d hd.symm i hi hn, jn, Option.bind_some, Sum.elim_inl, Int.toNat_natCast, hw]
    rw [if_pos ⟨by omega, by omega⟩]
    unfold G.s_l00Own
    have hk : ((sortedT (soonB a) i).take (scanR (fun j => soonB a i ((sortedT (soonB a) i).getD j default)) (sortedT (soonB a) i).length)).length ≤ i := by rw [List.length_take]; omega
    have hd : ((sortedT (soonB a) i).drop (scanR (fun j => soonB a i ((sortedT (soonB a) i).getD j default)) (sortedT (soonB a) i).length)).length ≤ i := by rw [List.length_drop]; omega
    rw [if_pos ⟨by omega, by omega⟩]
    simp only [Option.bind_some, List.length_append, List.length_cons, List.length_nil]
    rw [if_pos ⟨by omega, by omega⟩, if_pos ⟨by omega, by omega⟩, if_pos ⟨by omega, by omega⟩]
    simp only [sortedT, insT, List.append_assoc, List.singleton_append]
  · rintro _ _
    have h3 : decide (((a.length : Nat) : Int) < ((d.length : Nat) : Int)) = false := by rw [hdl]; simp
    simp only [G.s_l14Order.s0, h3, cond_false]
end Go.Proofs.Ytnhgffhnfegiiaa.Fw
namespace Go.Proofs.Ytnhgffhnfegiiaa.Fw
open Go.RowKit
set_option linter.unusedVariables false
set_option linter.unusedSimpArgs false
/-- The first least of the first values. -/
def pm (f : List Int) : Nat → Nat
  | 0 => 0
  | k + 1 => if f.getD k default < f.getD (pm f k) default then k else pm f k
theorem pm_lt (f : List Int) (k : Nat) : pm f (k + 1) < k + 1 := by
  induction k with
  | zero => simp [pm]
  | succ k ih =>
    rw [pm]
    split
    · omega
    · omega
theorem pm_one (f : List Int) : pm f 1 = 0 := by simp [pm]
theorem pm_take (f : List Int) (p : Nat) : ∀ k, k ≤ p → pm (f.take p) k = pm f k := by
  intro k
  induction k with
  | zero => intro _; rfl
  | succ k ih =>
    intro hk
    have h1 := ih (by omega)
    have h2 : pm f k < p := by
      cases k with
      | zero => simp [pm]; omega
      | succ k => have := pm_lt f k; omega
    have g : ∀ j, j < p → (f.take p).getD j default = f.getD j default := fun j hj => by
      simp only [List.getD_eq_getElem?_getD, List.getElem?_take, hj, if_true]
    rw [pm, pm, h1, g k (by omega), g _ h2]
structure GT where
  start : Int
  press : Nat
  beg : Int
  fin : Int
def gTime (p : Nat) (s : Int × List Int) (b : TBond) : GT :=
  let q := pm s.2 p
  let fq := s.2.getD q default
  let st := max s.1 (fq - b.Open)
  let bg := max (st + b.Spread) fq
  ⟨st, q, bg, bg + b.Press⟩
def gNext (p : Nat) (s : Int × List Int) (b : TBond) : Int × List Int := ((gTime p s b).start + b.Spread, s.2.set (gTime p s b).press (gTime p s b).fin)
def gBond (a : List TBond) (o : List Int) (i : Nat) : TBond := a.getD (o.getD i default).toNat default
def gSt (p : Nat) (a : List TBond) (o : List Int) : Nat → Int × List Int
  | 0 => (0, [0, 0, 0, 0])
  | i + 1 => gNext p (gSt p a o i) (gBond a o i)
def gTm (p : Nat) (a : List TBond) (o : List Int) (i : Nat) : GT := gTime p (gSt p a o i) (gBond a o i)
def gEnd (p : Nat) (a : List TBond) (o : List Int) : Nat → Int
  | 0 => 0
  | i + 1 => max (gEnd p a o i) (gTm p a o i).fin
/-- An order whose places all are bonds. -/
def okOrd (a : List TBond) (o : List Int) : Prop := ∀ i, i < o.length → 0 ≤ o.getD i default ∧ o.getD i default < (a.length : Int)
theorem gBond_R {a : List TBond} (ha : tameB a) {o : List Int} (ho : okOrd a o) {i : Nat} (hi : i < o.length) : bondR (gBond a o i) := by
  have := ho i hi
  exact ha.2 _ (by omega)
/-- All values stay small. -/
def gIn (s : Int × List Int) (m : Int) : Prop := s.2.length = 4 ∧ 0 ≤ s.1 ∧ s.1 ≤ m ∧ ∀ j, j < 4 → 0 ≤ s.2.getD j default ∧ s.2.getD j default ≤ m
theorem gTime_in {p : Nat} (hp : 1 ≤ p ∧ p ≤ 4) {s : Int × List Int} {m : Int} (hs : gIn s m) {b : TBond} (hb : bondR b) : (gTime p s b).press < p ∧ 0 ≤ (gTime p s b).start ∧ (gTime p s b).start ≤ m ∧ 0 ≤ (gTime p s b).beg ∧ (gTime p s b).beg ≤ m + 120 ∧ 0 ≤ (gTime p s b).fin ∧ (gTime p s b).fin ≤ m + 1560 := by
  obtain ⟨h1, h2, h3, h4⟩ := hs
  obtain ⟨b1, b2, b3, b4, b5, b6⟩ := hb
  have hq : pm s.2 p < p := by
    obtain ⟨k, rfl⟩ : ∃ k, p = k + 1 := ⟨p - 1, by omega⟩
    exact pm_lt s.2 k
  have hf := h4 (pm s.2 p) (by omega)
  simp only [gTime]
  generalize s.2.getD (pm s.2 p) default = fq at *
  refine ⟨hq, ?_, ?_, ?_, ?_, ?_, ?_⟩ <;> omega
theorem gNext_in {p : Nat} (hp : 1 ≤ p ∧ p ≤ 4) {s : Int × List Int} {m : Int} (hs : gIn s m) {b : TBond} (hb : bondR b) : gIn (gNext p s b) (m + 1560) := by
  obtain ⟨t1, t2, t3, t4, t5, t6, t7⟩ := gTime_in hp hs hb
  obtain ⟨h1, h2, h3, h4⟩ := hs
  obtain ⟨b1, b2, b3, b4, b5, b6⟩ := hb
  refine ⟨by simp [gNext, h1], by simp only [gNext]; omega, by simp only [gNext]; omega, fun j hj => ?_⟩
  simp only [gNext]
  by_cases e : (gTime p s b).press = j
  · subst e
    rw [getD_set_self _ _ _ _ (by omega)]
    omega
  · rw [List.getD_eq_getElem?_getD, List.getElem?_set, if_neg e, ← List.getD_eq_getElem?_getD]
    have := h4 j hj
    omega
theorem gSt_in {p : Nat} (hp : 1 ≤ p ∧ p ≤ 4) {a : List TBond} (ha : tameB a) {o : List Int} (ho : okOrd a o) : ∀ i, i ≤ o.length → gIn (gSt p a o i) (1560 * i) := by
  intro i
  induction i with
  | zero =>
    intro _
    refine ⟨rfl, by simp [gSt], by simp [gSt], fun j hj => ?_⟩
    have : j = 0 ∨ j = 1 ∨ j = 2 ∨ j = 3 := by omega
    rcases this with rfl | rfl | rfl | rfl <;> simp [gSt]
  | succ i ih =>
    intro hi
    have := gNext_in hp (ih (by omega)) (gBond_R ha ho (i := i) (by omega))
    rw [show ((i + 1 : Nat) : Int) = i + 1 from by omega, Int.mul_add]
    exact this
theorem gEnd_in {p : Nat} (hp : 1 ≤ p ∧ p ≤ 4) {a : List TBond} (ha : tameB a) {o : List Int} (ho : okOrd a o) : ∀ i, i ≤ o.length → 0 ≤ gEnd p a o i ∧ gEnd p a o i ≤ 1560 * i := by
  intro i
  induction i with
  | zero => intro _; simp [gEnd]
  | succ i ih =>
    intro hi
    have h1 := ih (by omega)
    have h2 := gTime_in hp (gSt_in hp ha ho i (by omega)) (gBond_R ha ho (i := i) (by omega))
    have h3 : gTm p a o i = gTime p (gSt p a o i) (gBond a o i) := rfl
    rw [← h3] at h2
    simp only [gEnd]
    omega
/-! the reference -/
theorem p_l00Max (a b : Int) : G.s_l00Max a b = some (max a b) := by
  simp only [G.s_l00Max]
  by_cases h : b < a
  · rw [decide_eq_true h, cond_true]; congr 1; omega
  · rw [decide_eq_false h, cond_false]; congr 1; omega
theorem s1_l24Times (p : Nat) (hp : 1 ≤ p ∧ p ≤ 4) (f : List Int) (hf : f.length = p) : iter (G.s_l24Times.s1 (p : Int) f) ((0 : Int), (1 : Int)) = some (.inl ((pm f p : Nat) : Int)) := by
  have hh := iter_go (step := G.s_l24Times.s1 (p : Int) f) (n := p) (A := Unit) (g := fun _ => ((pm f p : Nat) : Int)) (fun i _ => (((pm f i : Nat) : Int), (i : Int))) (fun i _ => 1 ≤ i) (fun _ => False) ?_ ?_ (p - 1) 1 () (by omega) (by omega)
  · rcases hh with ⟨_, _, h⟩ | ⟨r, hr, _⟩
    · rw [pm_one] at h
      exact h
    · exact hr.elim
  · rintro i _ hi h0
    refine .inl ⟨(), ?_, by omega⟩
    obtain ⟨k, rfl⟩ : ∃ k, i = k + 1 := ⟨i - 1, by omega⟩
    have hk := pm_lt f k
    have h3 : decide (((k + 1 : Nat) : Int) < (p : Int)) = true := decide_eq_true (by omega)
    have hw : IntKind.wrap .i64 (((k + 1 : Nat) : Int) + 1) = ((k + 1 + 1 : Nat) : Int) := by rw [wrap64 (by omega) (by omega)]; omega
    simp only [G.s_l24Times.s1, h3, cond_true, hf, Int.toNat_natCast, hw]
    rw [if_pos ⟨by omega, by omega⟩, if_pos ⟨by omega, by omega⟩]
    have hpm : pm f (k + 1 + 1) = if f.getD (k + 1) default < f.getD (pm f (k + 1)) default then k + 1 else pm f (k + 1) := rfl
    rw [hpm]
    by_cases c : f.getD (k + 1) default < f.getD (pm f (k + 1)) default
    · rw [decide_eq_true c, if_pos c]; rfl
    · rw [decide_eq_false c, if_neg c]; rfl
  · rintro _ _
    have h3 : decide ((p : Int) < (p : Int)) = false := by simp
    simp only [G.s_l24Times.s1, h3, cond_false]
def gRow (t : GT) : List Int := [t.start, (t.press : Int), t.beg, t.fin]
theorem p_l24Times (p : Nat) (hp : 1 ≤ p ∧ p ≤ 4) (a : List TBond) (ha : tameB a) (o : List Int) (ho : okOrd a o) (hn : o.length ≤ 1000) : G.s_l24Times a o (p : Int) = some ((List.range' 0 o.length).map fun i => gRow (gTm p a o i)) := by
  unfold G.s_l24Times
  rw [if_pos (makeOk_of (by omega) (by omega))]
  have hh := iter_go (step := G.s_l24Times.s0 a o (p : Int)) (n := o.length) (A := Unit) (g := fun _ => (List.range' 0 o.length).map fun i => gRow (gTm p a o i)) (fun i _ => ((gSt p a o i).2.take p, (gSt p a o i).1, (List.range' 0 i).map (fun i => gRow (gTm p a o i)), (i : Int))) (fun i _ => True) (fun _ => False) ?_ ?_ o.length 0 () (by omega) trivial
  · rcases hh with ⟨_, _, h⟩ | ⟨r, hr, _⟩
    · have e : List.replicate (p : Int).toNat (0 : Int) = (gSt p a o 0).2.take p := by
        have : p = 1 ∨ p = 2 ∨ p = 3 ∨ p = 4 := by omega
        rcases this with rfl | rfl | rfl | rfl <;> rfl
      rw [e]
      have h : iter (G.s_l24Times.s0 a o (p : Int)) ((gSt p a o 0).2.take p, 0, [], 0) = _ := h
      rw [h]
      rfl
    · exact hr.elim
  · rintro i _ hi _
    refine .inl ⟨(), ?_, trivial⟩
    have hs := gSt_in hp ha ho i (by omega)
    have hb := gBond_R ha ho hi
    have hT := gTime_in hp hs hb
    have h3 : decide ((i : Int) < ((o.length : Nat) : Int)) = true := decide_eq_true (by omega)
    have hw : IntKind.wrap .i64 ((i : Int) + 1) = ((i + 1 : Nat) : Int) := by rw [wrap64 (by omega) (by omega)]; omega
    have hoi := ho i hi
    have hfl : ((gSt p a o i).2.take p).length = p := by rw [List.length_take, hs.1]; omega
    have hq : pm ((gSt p a o i).2.take p) p = pm (gSt p a o i).2 p := pm_take _ p p (Nat.le_refl _)
    have hg : ((gSt p a o i).2.take p).getD (pm (gSt p a o i).2 p) default = (gSt p a o i).2.getD (pm (gSt p a o i).2 p) default := by
      have : pm (gSt p a o i).2 p < p := hT.1
      simp only [List.getD_eq_getElem?_getD, List.getElem?_take, this, if_true]
    have e1 : (gTime p (gSt p a o i) (gBond a o i)).press = pm (gSt p a o i).2 p := rfl
    have hset : ((gSt p a o i).2.take p).set (pm (gSt p a o i).2 p) (gTime p (gSt p a o i) (gBond a o i)).fin = (gSt p a o (i + 1)).2.take p := by
      simp only [gSt, gNext, e1]
      rw [List.take_set]
    have hB : a.getD (o.getD i default).toNat default = gBond a o i := rfl
    simp only [G.s_l24Times.s0, h3, cond_true, Int.toNat_natCast, hw]
    rw [if_pos ⟨by omega, by omega⟩, if_pos ⟨by omega, by omega⟩, s1_l24Times p hp _ hfl]
    simp only [jn, Option.bind_some, Sum.elim_inl, hq, hfl, Int.toNat_natCast, hg, hB, p_l00Max]
    rw [if_pos ⟨by omega, by omega⟩]
    have hx : gTime p (gSt p a o i) (gBond a o i) = ⟨max (gSt p a o i).1 ((gSt p a o i).2.getD (pm (gSt p a o i).2 p) default - (gBond a o i).Open), pm (gSt p a o i).2 p, max (max (gSt p a o i).1 ((gSt p a o i).2.getD (pm (gSt p a o i).2 p) default - (gBond a o i).Open) + (gBond a o i).Spread) ((gSt p a o i).2.getD (pm (gSt p a o i).2 p) default), max (max (gSt p a o i).1 ((gSt p a o i).2.getD (pm (gSt p a o i).2 p) default - (gBond a o i).Open) + (gBond a o i).Spread) ((gSt p a o i).2.getD (pm (gSt p a o i).2 p) default) + (gBond a o i).Press⟩ := rfl
    have hf := hs.2.2.2 (pm (gSt p a o i).2 p) (by have := hT.1; omega)
    have hb' := hb
    unfold bondR at hb'
    have w1 : IntKind.wrap .i64 ((gSt p a o i).2.getD (pm (gSt p a o i).2 p) default - (gBond a o i).Open) = (gSt p a o i).2.getD (pm (gSt p a o i).2 p) default - (gBond a o i).Open := wrap64 (by omega) (by omega)
    rw [w1]
    rw [hx] at hT hset
    simp only at hT hset
    have w2 : IntKind.wrap .i64 (max (gSt p a o i).1 ((gSt p a o i).2.getD (pm (gSt p a o i).2 p) default - (gBond a o i).Open) + (gBond a o i).Spread) = max (gSt p a o i).1 ((gSt p a o i).2.getD (pm (gSt p a o i).2 p) default - (gBond a o i).Open) + (gBond a o i).Spread := wrap64 (by omega) (by omega)
    rw [w2]
    have w3 : IntKind.wrap .i64 (max (max (gSt p a o i).1 ((gSt p a o i).2.getD (pm (gSt p a o i).2 p) default - (gBond a o i).Open) + (gBond a o i).Spread) ((gSt p a o i).2.getD (pm (gSt p a o i).2 p) default) + (gBond a o i).Press) = max (max (gSt p a o i).1 ((gSt p a o i).2.getD (pm (gSt p a o i).2 p) default - (gBond a o i).Open) + (gBond a o i).Spread) ((gSt p a o i).2.getD (pm (gSt p a o i).2 p) default) + (gBond a o i).Press := wrap64 (by omega) (by omega)
    rw [w3]
    simp only [List.length_map, List.length_range']
    rw [if_pos ⟨by omega, by omega⟩, if_pos ⟨by omega, by omega⟩, if_pos ⟨by omega, by omega⟩, hset, List.range'_1_concat]
    simp only [List.map_append, List.map_cons, List.map_nil, gRow, gTm, hx, Nat.zero_add]
    rfl
  · rintro _ _
    have h3 : decide (((o.length : Nat) : Int) < ((o.length : Nat) : Int)) = false := by simp
    simp only [G.s_l24Times.s0, h3, cond_false]
theorem p_l24End (p : Nat) (a : List TBond) (o : List Int) (n : Nat) (hn : n ≤ 1000) : G.s_l24End ((List.range' 0 n).map fun i => gRow (gTm p a o i)) = some (gEnd p a o n) := by
  unfold G.s_l24End
  have hh := iter_go (step := G.s_l24End.s0 ((List.range' 0 n).map fun i => gRow (gTm p a o i))) (n := n) (A := Unit) (g := fun _ => gEnd p a o n) (fun i _ => (gEnd p a o i, (i : Int))) (fun i _ => True) (fun _ => False) ?_ ?_ n 0 () (by omega) trivial
  · rcases hh with ⟨_, _, h⟩ | ⟨r, hr, _⟩
    · have h : iter (G.s_l24End.s0 ((List.range' 0 n).map fun i => gRow (gTm p a o i))) (0, 0) = _ := h
      rw [h]
      rfl
    · exact hr.elim
  · rintro i _ hi _
    refine .inl ⟨(), ?_, trivial⟩
    have hg : ((List.range' 0 n).map fun i => gRow (gTm p a o i)).getD i default = gRow (gTm p a o i) := by
      simp [List.getD_eq_getElem?_getD, hi]
    have h3 : decide ((i : Int) < ((((List.range' 0 n).map fun i => gRow (gTm p a o i)).length : Nat) : Int)) = true := decide_eq_true (by simp; omega)
    have hw : IntKind.wrap .i64 ((i : Int) + 1) = ((i + 1 : Nat) : Int) := by rw [wrap64 (by omega) (by omega)]; omega
    have hl : (((List.range' 0 n).map fun i => gRow (gTm p a o i)).length) = n := by simp
    simp only [G.s_l24End.s0, h3, cond_true, Int.toNat_natCast, hw, hg]
    rw [if_pos ⟨by omega, by omega⟩, if_pos ⟨by omega, by simp [gRow]⟩, p_l00Max]
    rfl
  · rintro _ _
    have h3 : decide ((n : Int) < ((((List.range' 0 n).map fun i => gRow (gTm p a o i)).length : Nat) : Int)) = false := decide_eq_false (by simp)
    simp only [G.s_l24End.s0, h3, cond_false]
end Go.Proofs.Ytnhgffhnfegiiaa.Fw
namespace Go.Proofs.Ytnhgffhnfegiiaa.Fw
open Go.RowKit
set_option linter.unusedVariables false
set_option linter.unusedSimpArgs false
theorem s0_add (f0 f1 f2 f3 : Int) (p q i : Nat) (hq : q < 4) (hi : i < 4) (hp : i < p) : G.i_gluing_add.s0 f0 f1 f2 f3 (p : Int) ((q : Int), (i : Int)) = some (.inl (((if [f0, f1, f2, f3].getD i default < [f0, f1, f2, f3].getD q default then i else q : Nat) : Int), ((i + 1 : Nat) : Int))) := by
  have h3 : decide ((i : Int) < (p : Int)) = true := decide_eq_true (by omega)
  have hw : IntKind.wrap .i64 ((i : Int) + 1) = ((i + 1 : Nat) : Int) := by rw [wrap64 (by omega) (by omega)]; omega
  simp only [G.i_gluing_add.s0, h3, cond_true, hw]
  have hi' : i = 0 ∨ i = 1 ∨ i = 2 ∨ i = 3 := by omega
  have hq' : q = 0 ∨ q = 1 ∨ q = 2 ∨ q = 3 := by omega
  have key : ∀ x y : Int, (bif decide (x < y) then some (i : Int) else some (q : Int)) = some (((if x < y then i else q : Nat) : Int)) := by
    intro x y
    by_cases c : x < y
    · rw [decide_eq_true c, if_pos c]; rfl
    · rw [decide_eq_false c, if_neg c]; rfl
  simp only [key, Option.bind_some]
  clear key hw h3 hp
  rcases hi' with rfl | rfl | rfl | rfl <;> rcases hq' with rfl | rfl | rfl | rfl <;> rfl
theorem p_scan (f0 f1 f2 f3 : Int) (p : Nat) (hp : 1 ≤ p ∧ p ≤ 4) : iter (G.i_gluing_add.s0 f0 f1 f2 f3 (p : Int)) ((0 : Int), (0 : Int)) = some (.inl ((pm [f0, f1, f2, f3] p : Nat) : Int)) := by
  have hh := iter_go (step := G.i_gluing_add.s0 f0 f1 f2 f3 (p : Int)) (n := p) (A := Unit) (g := fun _ => ((pm [f0, f1, f2, f3] p : Nat) : Int)) (fun i _ => (((pm [f0, f1, f2, f3] i : Nat) : Int), (i : Int))) (fun i _ => True) (fun _ => False) ?_ ?_ p 0 () (by omega) trivial
  · rcases hh with ⟨_, _, h⟩ | ⟨r, hr, _⟩
    · exact h
    · exact hr.elim
  · rintro i _ hi _
    have hl : pm [f0, f1, f2, f3] i < 4 := by
      cases i with
      | zero => simp [pm]
      | succ k => have := pm_lt [f0, f1, f2, f3] k; omega
    exact .inl ⟨(), s0_add f0 f1 f2 f3 p _ i hl (by omega) hi, trivial⟩
  · rintro _ _
    have h3 : decide ((p : Int) < (p : Int)) = false := by simp
    simp only [G.i_gluing_add.s0, h3, cond_false]
theorem p_add (p : Nat) (hp : 1 ≤ p ∧ p ≤ 4) (r f0 f1 f2 f3 e m : Int) (b : TBond) (hs : gIn (r, [f0, f1, f2, f3]) m) (hm : m ≤ 1000000) (hb : bondR b) :
    ∃ g : Tgluing, G.i_gluing_add r f0 f1 f2 f3 e b.Name b.Spread b.Open b.Press (p : Int) = some (g, Tglued.mk (gTime p (r, [f0, f1, f2, f3]) b).start ((gTime p (r, [f0, f1, f2, f3]) b).press : Int) (gTime p (r, [f0, f1, f2, f3]) b).beg (gTime p (r, [f0, f1, f2, f3]) b).fin) ∧
      (g.ready, [g.free.1, g.free.2.1, g.free.2.2.1, g.free.2.2.2]) = gNext p (r, [f0, f1, f2, f3]) b ∧ g.end_ = max e (gTime p (r, [f0, f1, f2, f3]) b).fin := by
  have hq : pm [f0, f1, f2, f3] p < 4 := by
    have := (gTime_in hp hs hb).1
    simp only [gTime] at this
    omega
  obtain ⟨_, h2, h3, h4⟩ := hs
  simp only at h2 h3 h4
  have hb' := hb
  unfold bondR at hb'
  have wr : ∀ x : Int, 0 ≤ x → x ≤ m → IntKind.wrap .i64 (x - b.Open) = x - b.Open ∧ IntKind.wrap .i64 (max r (x - b.Open) + b.Spread) = max r (x - b.Open) + b.Spread ∧ IntKind.wrap .i64 (max (max r (x - b.Open) + b.Spread) x + b.Press) = max (max r (x - b.Open) + b.Spread) x + b.Press := fun x hx1 hx2 => ⟨wrap64 (by omega) (by omega), wrap64 (by omega) (by omega), wrap64 (by omega) (by omega)⟩
  have g0 := h4 0 (by omega)
  have g1 := h4 1 (by omega)
  have g2 := h4 2 (by omega)
  have g3 := h4 3 (by omega)
  obtain ⟨a1, a2, a3⟩ := wr f0 g0.1 g0.2
  obtain ⟨b1, b2, b3⟩ := wr f1 g1.1 g1.2
  obtain ⟨c1, c2, c3⟩ := wr f2 g2.1 g2.2
  obtain ⟨d1, d2, d3⟩ := wr f3 g3.1 g3.2
  simp only [G.i_gluing_add, p_scan f0 f1 f2 f3 p hp, jn, Option.bind_some, Sum.elim_inl, a1, a2, a3, b1, b2, b3, c1, c2, c3, d1, d2, d3]
  simp only [gNext, gTime]
  have hq' : pm [f0, f1, f2, f3] p = 0 ∨ pm [f0, f1, f2, f3] p = 1 ∨ pm [f0, f1, f2, f3] p = 2 ∨ pm [f0, f1, f2, f3] p = 3 := by omega
  rcases hq' with h | h | h | h <;> rw [h] <;> exact ⟨_, rfl, rfl, rfl⟩
def gOut (p : Nat) (a : List TBond) (o : List Int) (n : Nat) : Nat → List Tglued
  | 0 => List.replicate n (Tglued.mk 0 0 0 0)
  | i + 1 => (gOut p a o n i).set (o.getD i default).toNat (Tglued.mk (gTm p a o i).start ((gTm p a o i).press : Int) (gTm p a o i).beg (gTm p a o i).fin)
theorem gOut_length (p : Nat) (a : List TBond) (o : List Int) (n i : Nat) : (gOut p a o n i).length = n := by
  induction i with
  | zero => simp [gOut]
  | succ i ih => simp [gOut, ih]
theorem p_glueAll (p : Nat) (hp : 1 ≤ p ∧ p ≤ 4) (a : List TBond) (ha : tameB a) (o : List Int) (ho : okOrd a o) (hn : o.length ≤ 100) : G.i_glueAll a o (p : Int) = some (gOut p a o a.length o.length, gEnd p a o o.length) := by
  have hal := ha.1
  unfold G.i_glueAll
  rw [if_pos (makeOk_of (by omega) (by omega))]
  have hh := iter_go (step := G.i_glueAll.s0 a o (p : Int)) (n := o.length) (A := Int × Int × Int × Int × Int × Int × List Tglued) (g := fun x => x) (fun i x => (x.1, x.2.1, x.2.2.1, x.2.2.2.1, x.2.2.2.2.1, x.2.2.2.2.2.1, x.2.2.2.2.2.2, (i : Int)))
    (fun i x => (x.1, [x.2.1, x.2.2.1, x.2.2.2.1, x.2.2.2.2.1]) = gSt p a o i ∧ x.2.2.2.2.2.1 = gEnd p a o i ∧ x.2.2.2.2.2.2 = gOut p a o a.length i) (fun _ => False) ?_ ?_ o.length 0 (0, 0, 0, 0, 0, 0, List.replicate a.length (Tglued.mk 0 0 0 0)) (by omega) ⟨rfl, rfl, rfl⟩
  · rcases hh with ⟨x, ⟨_, h1, h2⟩, h⟩ | ⟨r, hr, _⟩
    · have h : iter (G.i_glueAll.s0 a o (p : Int)) (0, 0, 0, 0, 0, 0, List.replicate a.length (Tglued.mk 0 0 0 0), 0) = _ := h
      rw [h]
      simp only [jn, Option.bind_some, Sum.elim_inl, h1, h2]
    · exact hr.elim
  · rintro i ⟨r, f0, f1, f2, f3, e, O⟩ hi ⟨h1, h2, h3⟩
    simp only at h1 h2 h3
    have hs := gSt_in hp ha ho i (by omega)
    rw [← h1] at hs
    have hb := gBond_R ha ho hi
    obtain ⟨g, hg1, hg2, hg3⟩ := p_add p hp r f0 f1 f2 f3 e (1560 * i) (gBond a o i) hs (by omega) hb
    have hoi := ho i hi
    have hO : O.length = a.length := by rw [h3, gOut_length]
    have h4 : decide ((i : Int) < ((o.length : Nat) : Int)) = true := decide_eq_true (by omega)
    have hw : IntKind.wrap .i64 ((i : Int) + 1) = ((i + 1 : Nat) : Int) := by rw [wrap64 (by omega) (by omega)]; omega
    have hB : a.getD (o.getD i default).toNat default = gBond a o i := rfl
    have hT : gTime p (r, [f0, f1, f2, f3]) (gBond a o i) = gTm p a o i := by rw [h1]; rfl
    rw [hT] at hg1 hg3
    refine .inl ⟨(g.ready, g.free.1, g.free.2.1, g.free.2.2.1, g.free.2.2.2, g.end_, O.set (o.getD i default).toNat (Tglued.mk (gTm p a o i).start ((gTm p a o i).press : Int) (gTm p a o i).beg (gTm p a o i).fin)), ?_, ?_, ?_, ?_⟩
    · simp only [G.i_glueAll.s0, h4, cond_true, Int.toNat_natCast, hw, hB, hg1, Option.bind_some, hO]
      rw [if_pos ⟨by omega, by omega⟩, if_pos ⟨by omega, by omega⟩, if_pos ⟨by omega, by omega⟩]
    · show (g.ready, [g.free.1, g.free.2.1, g.free.2.2.1, g.free.2.2.2]) = _
      rw [hg2, h1]
      rfl
    · show g.end_ = _
      rw [hg3, h2]
      rfl
    · show O.set _ _ = _
      rw [h3]
      rfl
  · rintro ⟨r, f0, f1, f2, f3, e, O⟩ _
    have h3 : decide (((o.length : Nat) : Int) < ((o.length : Nat) : Int)) = false := by simp
    simp only [G.i_glueAll.s0, h3, cond_false]
end Go.Proofs.Ytnhgffhnfegiiaa.Fw
namespace Go.Proofs.Ytnhgffhnfegiiaa.Fw
open Go.RowKit
set_option linter.unusedVariables false
set_option linter.unusedSimpArgs false
theorem p_lengths (a : List TBond) (hn : a.length ≤ 1000000) : iter (G.s_LongestFirst.s0 a) (([] : List Int), (0 : Int)) = some (.inl (a.map fun x => x.Press)) := by
  have hh := iter_go (step := G.s_LongestFirst.s0 a) (n := a.length) (A := Unit) (g := fun _ => a.map fun x => x.Press) (fun i _ => ((a.take i).map fun x => x.Press, (i : Int))) (fun i _ => True) (fun _ => False) ?_ ?_ a.length 0 () (by omega) trivial
  · rcases hh with ⟨_, _, h⟩ | ⟨r, hr, _⟩
    · exact h
    · exact hr.elim
  · rintro i _ hi _
    refine .inl ⟨(), ?_, trivial⟩
    have h3 : decide ((i : Int) < ((a.length : Nat) : Int)) = true := decide_eq_true (by omega)
    have hw : IntKind.wrap .i64 ((i : Int) + 1) = ((i + 1 : Nat) : Int) := by rw [wrap64 (by omega) (by omega)]; omega
    have hl : ((a.take i).map fun x => x.Press).length ≤ i := by rw [List.length_map, List.length_take]; omega
    simp only [G.s_LongestFirst.s0, h3, cond_true, Int.toNat_natCast, hw]
    rw [if_pos ⟨by omega, by omega⟩, if_pos ⟨by omega, by omega⟩]
    have e : (a.take i).map (fun x => x.Press) ++ [(a.getD i default).Press] = (a.take (i + 1)).map fun x => x.Press := by
      rw [List.take_succ_eq_append_getElem hi, List.map_append, List.getD_eq_getElem?_getD, List.getElem?_eq_getElem hi]
      rfl
    rw [e]
  · rintro _ _
    have h3 : decide (((a.length : Nat) : Int) < ((a.length : Nat) : Int)) = false := by simp
    simp only [G.s_LongestFirst.s0, h3, cond_false, List.take_length]
theorem p_idx (a : List TBond) (hn : a.length ≤ 1000000) : iter (G.i_LongestFirst.s0 a) (([] : List Int), (0 : Int)) = some (.inl ((List.range' 0 a.length).map Int.ofNat)) := by
  have hh := iter_go (step := G.i_LongestFirst.s0 a) (n := a.length) (A := Unit) (g := fun _ => (List.range' 0 a.length).map Int.ofNat) (fun i _ => ((List.range' 0 i).map Int.ofNat, (i : Int))) (fun i _ => True) (fun _ => False) ?_ ?_ a.length 0 () (by omega) trivial
  · rcases hh with ⟨_, _, h⟩ | ⟨r, hr, _⟩
    · exact h
    · exact hr.elim
  · rintro i _ hi _
    refine .inl ⟨(), ?_, trivial⟩
    have h3 : decide ((i : Int) < ((a.length : Nat) : Int)) = true := decide_eq_true (by omega)
    have hw : IntKind.wrap .i64 ((i : Int) + 1) = ((i + 1 : Nat) : Int) := by rw [wrap64 (by omega) (by omega)]; omega
    simp only [G.i_LongestFirst.s0, h3, cond_true, List.length_map, List.length_range', hw, idx_succ]
    rw [if_pos ⟨by omega, by omega⟩]
  · rintro _ _
    have h3 : decide (((a.length : Nat) : Int) < ((a.length : Nat) : Int)) = false := by simp
    simp only [G.i_LongestFirst.s0, h3, cond_false]
theorem okOrd_sorted (a : List TBond) (lt : Int → Int → Bool) : okOrd a (sortedT lt a.length) := fun i hi => by
  rw [sortedT_length] at hi
  exact sortedT_get lt a.length hi
theorem law_LongestFirst (a : List TBond) (n : Int) (ha : ∀ x ∈ a, fitBond x) (hn : a.length ≤ 9223372036854775807) : G.l_FnExactLongestFirst a n = some true := by
  obtain ⟨q, hq, hq2⟩ := p_szBondS a ha hn
  by_cases c : q < 0
  · unfold G.l_FnExactLongestFirst
    rw [hq, Option.bind_some, decide_eq_true c]; rfl
  · have hl : a.length ≤ 1048576 := hq2 (by omega)
    have ht := p_toBondS a hl
    have he := p_eqBondS a a (by omega)
    obtain ⟨o, ho1, ho2⟩ := p_markBondS a (by omega)
    obtain ⟨b, hb1, hb2, hb3⟩ := p_bonds a ha (by omega)
    have hk : decide (1 + 4 * (a.length : Int) < 0) = false := decide_eq_false (by omega)
    have e0 := p_eqInt64S [] [] (by simp)
    have m0 := p_markInt64S_0n
    have g0 := p_heldInt64S [] (by simp) (by simp)
    have bad : ∀ k : Int, G.s_LongestFirst a n = some ([], 0, k) → G.i_LongestFirst a n = some (none, 0, k) → G.l_FnExactLongestFirst a n = some true := fun k hs hi => by
      unfold G.l_FnExactLongestFirst
      rw [hq, Option.bind_some, decide_eq_false c]
      simp only [ht, hs, hi, Option.bind_some, onO, cond_false, e0, he, ho2, ho1, decide_true, Bool.not_true, cond_true, if_true, hk, m0, g0]
      rfl
    cases b with
    | false => exact bad 1 (by simp only [G.s_LongestFirst, hb1, Option.bind_some, cond_false]) (by simp only [G.i_LongestFirst, G.i_pressCode, hb2, Option.bind_some, cond_false]; rfl)
    | true =>
      cases hp : inR n 1 4 with
      | false => exact bad 2 (by simp only [G.s_LongestFirst, hb1, Option.bind_some, cond_true, p_l00In, hp, cond_false]) (by simp only [G.i_LongestFirst, G.i_pressCode, hb2, Option.bind_some, cond_true, p_within, hp, cond_false]; rfl)
      | true =>
        clear bad
        have h16 := hb3 rfl
        have hp' : 1 ≤ n ∧ n ≤ 4 := by simpa [inR] using hp
        obtain ⟨p, rfl⟩ : ∃ p : Nat, n = (p : Int) := ⟨n.toNat, by omega⟩
        have hpp : 1 ≤ p ∧ p ≤ 4 := by omega
        have hS := p_l14Order a (by omega)
        have hI := p_sortStableB a h16
        have hL := sortedT_length (soonB a) a.length
        have hO := okOrd_sorted a (soonB a)
        have h12 := h16.1
        generalize sortedT (soonB a) a.length = L at *
        have hT := p_l24Times p hpp a h16 L hO (by omega)
        have hE := p_l24End p a L L.length (by omega)
        have hG := p_glueAll p hpp a h16 L hO (by omega)
        have hs : G.s_LongestFirst a (p : Int) = some (L, gEnd p a L L.length, 0) := by
          simp only [G.s_LongestFirst, hb1, Option.bind_some, cond_true, p_l00In, hp, p_lengths a (by omega), jn, Sum.elim_inl, hS, hT, hE]
        have hi : G.i_LongestFirst a (p : Int) = some (some L, gEnd p a L L.length, 0) := by
          simp only [G.i_LongestFirst, G.i_pressCode, hb2, Option.bind_some, cond_true, p_within, hp, decide_true, p_idx a (by omega), jn, Sum.elim_inl, hI, List.length_map, List.length_range', hL, if_true, hG]
        have e1 := p_eqInt64S L L (by omega)
        obtain ⟨u, hp1, hp2, hp3⟩ := p_markInt64S L (by omega)
        have g1 := p_heldInt64S u (by omega) (by rw [hp1]; exact hp2)
        have hh : decide (1 + (L.length : Int) < 0) = false := decide_eq_false (by omega)
        unfold G.l_FnExactLongestFirst
        rw [hq, Option.bind_some, decide_eq_false c]
        simp only [ht, hs, hi, Option.bind_some, onO, cond_false, e1, he, ho2, ho1, decide_true, Bool.not_true, cond_true, if_true, hk, hp1, hp3, g1, hh]
theorem bonds_in {rows : List (List CV)} (h : ∀ r ∈ rows, Okl [.str, .int .i64, .int .i64, .int .i64] r) : ∃ a : List TBond, rows = mapR rTBond a ∧ ∀ x ∈ a, fitBond x := by
  refine rows_of (f := rTBond) (rows := rows) (fun r hr => ?_)
  obtain ⟨y0, ys0, rfl, e0, k0⟩ := okcons (h r hr)
  obtain ⟨y1, ys1, rfl, e1, k1⟩ := okcons k0
  obtain ⟨y2, ys2, rfl, e2, k2⟩ := okcons k1
  obtain ⟨y3, ys3, rfl, e3, k3⟩ := okcons k2
  obtain rfl := oknil k3
  obtain ⟨v0, rfl, b0⟩ := okstr e0
  obtain ⟨v1, rfl, b1, c1⟩ := okint e1
  obtain ⟨v2, rfl, b2, c2⟩ := okint e2
  obtain ⟨v3, rfl, b3, c3⟩ := okint e3
  exact ⟨⟨v0, v1, v2, v3⟩, rfl, b0⟩
theorem ret_FnExactLongestFirst (nl : Bool) (rows : List (List CV)) (hl : rows.length ≤ 9223372036854775807) (_ : nl = true → rows = []) (hr : ∀ r ∈ rows, Okl [.str, .int .i64, .int .i64, .int .i64] r) (n : Int) (_ : IntKind.min .i64 ≤ n) (_ : n ≤ IntKind.max .i64) : Ret Try.prog 5 none [.c (.sl nl false 4 rows), .c (.v (.int .i64 n))] [] (.c (.v (.bool true))) := by
  obtain ⟨a, rfl, ha⟩ := bonds_in hr
  exact Ret.args (by simp [AV.lo]) (AWkL.cons (AWk.c CWk.sl) (AWkL.cons (AWk.refl _) AWkL.nil)) (ret_l_FnExactLongestFirst a n (law_LongestFirst a n ha (by simpa [mapR] using hl)))
end Go.Proofs.Ytnhgffhnfegiiaa.Fw
