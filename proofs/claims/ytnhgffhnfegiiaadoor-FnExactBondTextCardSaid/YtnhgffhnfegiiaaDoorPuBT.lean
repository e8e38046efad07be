/- What the functions without memory come to. No condition. -/
import Derived.Test.YtnhgffhnfegiiaaDoorGBma
import Derived.Test.YtnhgffhnfegiiaaDoorFwGf
import Derived.Test.YtnhgffhnfegiiaaDoorFwZb
namespace Go.Proofs.YtnhgffhnfegiiaaDoor.Fw
open Go.RowKit
set_option linter.unusedVariables false
set_option linter.unusedSimpArgs false
theorem all_getD {a b : List Int} (hl : a.length = b.length) : ((List.range' 0 a.length).all fun i => decide (a.getD i default = b.getD i default)) = decide (a = b) := by
  rw [Bool.eq_iff_iff, List.all_eq_true, decide_eq_true_eq]
  constructor
  · intro h
    refine List.ext_getElem hl fun i h1 h2 => ?_
    have := h i (by simp [List.mem_range'_1]; exact h1)
    simpa [List.getD_eq_getElem?_getD, h1, h2] using this
  · rintro rfl i _
    simp
end Go.Proofs.YtnhgffhnfegiiaaDoor.Fw
namespace Go.Proofs.YtnhgffhnfegiiaaDoor.Fw
open Go.RowKit
set_option linter.unusedVariables false
set_option linter.unusedSimpArgs false
def inR (n lo hi : Int) : Bool := decide (lo ≤ n) && decide (n ≤ hi)
theorem p_within (n lo hi : Int) : G.i_within n lo hi = some (inR n lo hi) := by
  unfold G.i_within inR; cases decide (lo ≤ n) <;> rfl
theorem p_l00In (n lo hi : Int) : G.s_l00In n lo hi = some (inR n lo hi) := by
  unfold G.s_l00In inR; cases decide (lo ≤ n) <;> rfl
theorem p_l01Small (c : Int) : G.s_l01Small c = some (inR c 97 122) := by
  unfold G.s_l01Small inR; cases decide (97 ≤ c) <;> rfl
theorem p_l01Digit (c : Int) : G.s_l01Digit c = some (inR c 48 57) := by
  unfold G.s_l01Digit inR; cases decide (48 ≤ c) <;> rfl
theorem all_getDL {α : Type} [Inhabited α] [DecidableEq α] {a b : List α} (hl : a.length = b.length) : ((List.range' 0 a.length).all fun i => decide (a.getD i default = b.getD i default)) = decide (a = b) := by
  rw [Bool.eq_iff_iff, List.all_eq_true, decide_eq_true_eq]
  constructor
  · intro h
    refine List.ext_getElem hl fun i h1 h2 => ?_
    have := h i (by simp [List.mem_range'_1]; exact h1)
    simpa [List.getD_eq_getElem?_getD, h1, h2] using this
  · rintro rfl i _
    simp
theorem makeOk_of {n : Nat} {b : Nat} (h : n ≤ 1048576) (hb : b ≤ 1000) : makeOk (n : Int) (n : Int) b := by
  unfold makeOk
  have h1 : n * b ≤ 1048576 * 1000 := Nat.mul_le_mul h hb
  have h2 : (b : Int) * (n : Int) = ((n * b : Nat) : Int) := by rw [Int.natCast_mul, Int.mul_comm]
  refine ⟨?_, ?_, ?_, ?_⟩ <;> omega
end Go.Proofs.YtnhgffhnfegiiaaDoor.Fw
namespace Go.Proofs.YtnhgffhnfegiiaaDoor.Fw
open Go.RowKit
set_option linter.unusedVariables false
set_option linter.unusedSimpArgs false
end Go.Proofs.YtnhgffhnfegiiaaDoor.Fw
namespace Go.Proofs.YtnhgffhnfegiiaaDoor.Fw
open Go.RowKit
set_option linter.unusedVariables false
set_option linter.unusedSimpArgs false
def chOk (c : Int) : Bool := inR c 97 122 || inR c 48 57
def nameOk (s : ByteArray) : Bool := !(decide (s.size = 0) || decide ((10 : Int) < ((s.size : Nat) : Int))) && (inR (byteAt s 0) 97 122 && (List.range' 0 s.size).all fun i => chOk (byteAt s i))
theorem p_l01Name (s : ByteArray) (hs : s.size ≤ 9223372036854775807) : G.s_l01Name s = some (nameOk s) := by
  have hit : iter (G.s_l01Name.s0 s) 0 = some (if (List.range' 0 s.size).all (fun i => chOk (byteAt s i)) then .inl () else .inr false) := by
    refine iter_scan (step := G.s_l01Name.s0 s) (n := s.size) (p := fun i => chOk (byteAt s i)) (v := ()) (r := false) ?_ ?_ s.size 0 (by omega)
    · intro i hi
      have h1 : decide ((i : Int) < ((s.size : Nat) : Int)) = true := by simp; omega
      have hc : 0 ≤ (i : Int) ∧ (i : Int) < ((s.size : Nat) : Int) := ⟨by omega, by omega⟩
      simp only [G.s_l01Name.s0, h1, cond_true, if_pos hc, p_l01Small, p_l01Digit, Int.toNat_natCast, Option.bind_some, chOk]
      rw [wrap64 (by omega) (by omega)]
      rcases Bool.eq_false_or_eq_true (inR (byteAt s i) 97 122) with h5 | h5 <;> rcases Bool.eq_false_or_eq_true (inR (byteAt s i) 48 57) with h6 | h6 <;> simp [h5, h6]
    · have h1 : decide (((s.size : Nat) : Int) < ((s.size : Nat) : Int)) = false := by simp
      simp only [G.s_l01Name.s0, h1, cond_false]
  unfold G.s_l01Name nameOk
  rw [hit]
  by_cases c0 : s.size = 0
  · simp [c0]
  · by_cases c1 : (10 : Int) < ((s.size : Nat) : Int)
    · simp [c0, c1]
    · have hc : 0 ≤ (0 : Int) ∧ (0 : Int) < ((s.size : Nat) : Int) := ⟨by omega, by omega⟩
      simp only [c0, c1, decide_false, cond_false, Option.bind_some, if_pos hc, p_l01Small, Bool.or_self, Bool.not_false, Bool.true_and]
      cases inR (byteAt s 0) 97 122
      · rfl
      · cases (List.range' 0 s.size).all fun i => chOk (byteAt s i) <;> rfl
theorem lt_not (a b : Int) : decide (a < b) = !decide (b ≤ a) := by
  by_cases h : a < b
  · simp [h, Int.not_le.2 h]
  · simp [h, Int.not_lt.1 h]
theorem p_IsName (s : ByteArray) (hs : s.size ≤ 9223372036854775807) : G.i_IsName s = some (nameOk s) := by
  have hit : iter (G.i_IsName.s0 s) 0 = some (if (List.range' 0 s.size).all (fun i => chOk (byteAt s i)) then .inl () else .inr false) := by
    refine iter_scan (step := G.i_IsName.s0 s) (n := s.size) (p := fun i => chOk (byteAt s i)) (v := ()) (r := false) ?_ ?_ s.size 0 (by omega)
    · intro i hi
      have h1 : decide ((i : Int) < ((s.size : Nat) : Int)) = true := by simp; omega
      have hc : 0 ≤ (i : Int) ∧ (i : Int) < ((s.size : Nat) : Int) := ⟨by omega, by omega⟩
      simp only [G.i_IsName.s0, h1, cond_true, if_pos hc, Int.toNat_natCast, Option.bind_some, chOk, inR]
      rw [wrap64 (by omega) (by omega), lt_not (byteAt s i) 97, lt_not 122 (byteAt s i), lt_not (byteAt s i) 48, lt_not 57 (byteAt s i)]
      by_cases h5 : 97 ≤ byteAt s i <;> by_cases h6 : byteAt s i ≤ 122 <;> by_cases h7 : 48 ≤ byteAt s i <;> by_cases h8 : byteAt s i ≤ 57 <;> simp [h5, h6, h7, h8]
    · have h1 : decide (((s.size : Nat) : Int) < ((s.size : Nat) : Int)) = false := by simp
      simp only [G.i_IsName.s0, h1, cond_false]
  unfold G.i_IsName nameOk
  rw [hit]
  by_cases c0 : s.size = 0
  · simp [c0]
  · by_cases c1 : (10 : Int) < ((s.size : Nat) : Int)
    · have c2 : ¬ ((s.size : Nat) : Int) < 1 := by omega
      simp [c0, c1, c2]
    · have hc : 0 ≤ (0 : Int) ∧ (0 : Int) < ((s.size : Nat) : Int) := ⟨by omega, by omega⟩
      have c2 : ¬ ((s.size : Nat) : Int) < 1 := by omega
      simp only [c0, c1, c2, decide_false, cond_false, Option.bind_some, if_pos hc, Bool.or_self, Bool.not_false, Bool.true_and, inR, lt_not (byteAt s 0) 97, lt_not 122 (byteAt s 0)]
      cases decide (97 ≤ byteAt s 0) <;> cases decide (byteAt s 0 ≤ 122) <;> cases (List.range' 0 s.size).all fun i => chOk (byteAt s i) <;> rfl
end Go.Proofs.YtnhgffhnfegiiaaDoor.Fw
namespace Go.Proofs.YtnhgffhnfegiiaaDoor.Fw
open Go.RowKit
set_option linter.unusedVariables false
set_option linter.unusedSimpArgs false
theorem p_toBond (x : TBond) : G.l_toBond x.Name x.Spread x.Open x.Press = some x := rfl
def smallBond (x : TBond) : Prop := x.Name.size ≤ 9223372036854775807
theorem p_szBond (x : TBond) (h : smallBond x) (left : Int) (h1 : 0 ≤ left) (h2 : left ≤ 1048576) : ∃ q, G.l_szBond x.Name x.Spread x.Open x.Press left = some q ∧ q ≤ left := by
  have ha0 := h
  unfold smallBond at ha0
  unfold G.l_szBond
  rw [wrap64 (by omega) (by omega)]
  by_cases c0 : left - (x.Name.size : Int) < 0
  · exact ⟨-1, by rw [decide_eq_true c0]; rfl, by omega⟩
  · rw [decide_eq_false c0]
    exact ⟨left - (x.Name.size : Int), by rfl, by omega⟩
end Go.Proofs.YtnhgffhnfegiiaaDoor.Fw
namespace Go.Proofs.YtnhgffhnfegiiaaDoor.Fw
open Go.RowKit
set_option linter.unusedVariables false
set_option linter.unusedSimpArgs false
def fitBond (x : TBond) : Prop := x.Name.size ≤ 9223372036854775807
def bondR (x : TBond) : Prop := 1 ≤ x.Spread ∧ x.Spread ≤ 120 ∧ x.Spread ≤ x.Open ∧ x.Open ≤ 240 ∧ 1 ≤ x.Press ∧ x.Press ≤ 1440
def bondB (x : TBond) : Bool := nameOk x.Name && inR x.Spread 1 120 && inR x.Open x.Spread 240 && inR x.Press 1 1440
theorem bondB_R {x : TBond} (h : bondB x = true) : bondR x := by
  simp only [bondB, Bool.and_eq_true, inR, decide_eq_true_eq] at h
  unfold bondR
  omega
theorem p_l24One (x : TBond) (hx : fitBond x) : G.s_l24One x.Name x.Spread x.Open x.Press = some (bondB x) := by
  have h1 : x.Name.size ≤ 9223372036854775807 := hx
  simp only [G.s_l24One, p_l01Name x.Name h1, p_l00In, Option.bind_some, bondB]
  cases nameOk x.Name <;> cases inR x.Spread 1 120 <;> cases inR x.Open x.Spread 240 <;> cases inR x.Press 1 1440 <;> rfl
theorem p_ValidBond (x : TBond) (hx : fitBond x) : G.i_ValidBond x.Name x.Spread x.Open x.Press = some (bondB x) := by
  have h1 : x.Name.size ≤ 9223372036854775807 := hx
  simp only [G.i_ValidBond, p_IsName x.Name h1, p_within, Option.bind_some, bondB]
  cases nameOk x.Name <;> cases inR x.Spread 1 120 <;> cases inR x.Open x.Spread 240 <;> cases inR x.Press 1 1440 <;> rfl
theorem fit_getB {a : List TBond} (ha : ∀ x ∈ a, fitBond x) {i : Nat} (hi : i < a.length) : fitBond (a.getD i default) := by
  rw [List.getD_eq_getElem?_getD, List.getElem?_eq_getElem hi, Option.getD_some]
  exact ha _ (List.getElem_mem hi)
def bondsP (a : List TBond) (i : Nat) : Bool := bondB (a.getD i default) && (decide (i = 0) || strLt (a.getD (i - 1) default).Name (a.getD i default).Name)
def bondsB (a : List TBond) : Bool := (List.range' 0 a.length).all (bondsP a) && decide ((a.length : Int) ≤ 12)
theorem bondsB_R {a : List TBond} (h : bondsB a = true) : a.length ≤ 12 ∧ ∀ i, i < a.length → bondR (a.getD i default) := by
  simp only [bondsB, Bool.and_eq_true, List.all_eq_true, decide_eq_true_eq] at h
  refine ⟨by omega, fun i hi => ?_⟩
  have := h.1 i (by simp [List.mem_range'_1]; exact hi)
  simp only [bondsP, Bool.and_eq_true] at this
  exact bondB_R this.1
def tameB (a : List TBond) : Prop := a.length ≤ 12 ∧ ∀ i, i < a.length → bondR (a.getD i default)
end Go.Proofs.YtnhgffhnfegiiaaDoor.Fw
namespace Go.Proofs.YtnhgffhnfegiiaaDoor.Fw
open Go.RowKit
set_option linter.unusedVariables false
set_option linter.unusedSimpArgs false
/-- Decimal digits, the last one first. -/
def revD (u : Nat) : List Int := if h : u = 0 then [] else (48 + ((u % 10 : Nat) : Int)) :: revD (u / 10)
termination_by u
decreasing_by omega
theorem revD_zero : revD 0 = [] := by unfold revD; simp
theorem revD_pos {u : Nat} (h : u ≠ 0) : revD u = (48 + ((u % 10 : Nat) : Int)) :: revD (u / 10) := by
  rw [revD]; simp [h]
theorem revD_len (u : Nat) : (revD u).length ≤ u := by
  induction u using Nat.strongRecOn with
  | ind u ih =>
    by_cases h : u = 0
    · subst h; simp [revD_zero]
    · rw [revD_pos h, List.length_cons]
      have := ih (u / 10) (by omega)
      omega
def u8 (d : Int) : UInt8 := UInt8.ofNat d.toNat
theorem bytesU_eq (xs : List Int) : bytesU xs = xs.map u8 := rfl
theorem dec_rev (u : Nat) (h : u ≠ 0) : Go.Lib.decDigits u = ((revD u).map u8).reverse := by
  induction u using Nat.strongRecOn with
  | ind u ih =>
    rw [Go.Lib.decDigits, revD_pos h]
    by_cases c : u < 10
    · have h0 : u / 10 = 0 := by omega
      have h1 : u % 10 = u := by omega
      rw [dif_pos c, h0, revD_zero, h1]
      have : (48 + (u : Int)).toNat = 48 + u := by omega
      simp only [List.map_cons, List.map_nil, List.reverse_cons, List.reverse_nil, List.nil_append, u8, this]
    · rw [dif_neg c, ih (u / 10) (by omega) (by omega)]
      simp only [List.map_cons, List.reverse_cons]
      congr 1
theorem dec_len (u : Nat) : (Go.Lib.decDigits u).length ≤ u + 1 := by
  by_cases h : u = 0
  · subst h; rw [Go.Lib.decDigits]; simp
  · rw [dec_rev u h]
    have := revD_len u
    simp only [List.length_reverse, List.length_map]
    omega
theorem itoa_len (n : Int) : (Go.Lib.itoa n).length ≤ n.natAbs + 2 := by
  unfold Go.Lib.itoa
  split
  · have := dec_len n.natAbs; simp only [List.length_cons]; omega
  · have := dec_len n.toNat; omega
theorem digits_loop : ∀ (k : Nat) (m : Int) (ds : List Int), m.natAbs ≤ k → m.natAbs ≤ 10000000000000 → ds.length + m.natAbs ≤ 20000000000000 → iter G.s_l01Dec.s0 (ds, m) = some (.inl (ds ++ revD m.natAbs)) := by
  intro k
  induction k with
  | zero =>
    intro m ds hk hm hl
    have : m = 0 := by omega
    subst this
    rw [iter_inr (r := .inl ds) rfl]
    simp [revD_zero]
  | succ k ih =>
    intro m ds hk hm hl
    by_cases h0 : m = 0
    · subst h0
      rw [iter_inr (r := .inl ds) rfl]
      simp [revD_zero]
    · have hna : m.natAbs ≠ 0 := by omega
      have hmod : ∃ d : Int, (bif (decide ((m.tmod (10 : Int)) < (0 : Int))) then (some (IntKind.wrap .i64 (0 - (m.tmod (10 : Int))))) else (some (m.tmod (10 : Int)))) = some d ∧ d = ((m.natAbs % 10 : Nat) : Int) := by
        rcases Int.lt_or_lt_of_ne h0 with hneg | hpos
        · obtain ⟨u, rfl⟩ : ∃ u : Nat, m = -(u : Int) := ⟨m.natAbs, by omega⟩
          have e : (-(u : Int)).tmod 10 = -((u % 10 : Nat) : Int) := by rw [Int.neg_tmod, Int.tmod_eq_emod_of_nonneg (by omega)]; omega
          rw [e]
          by_cases c : -((u % 10 : Nat) : Int) < 0
          · rw [decide_eq_true c]
            exact ⟨_, rfl, by rw [wrap64 (by omega) (by omega)]; omega⟩
          · rw [decide_eq_false c]
            exact ⟨_, rfl, by omega⟩
        · have e : m.tmod 10 = ((m.natAbs % 10 : Nat) : Int) := by rw [Int.tmod_eq_emod_of_nonneg (by omega)]; omega
          rw [e, decide_eq_false (by omega)]
          exact ⟨_, rfl, rfl⟩
      obtain ⟨d, hd, rfl⟩ := hmod
      have hdiv : (m.tdiv 10).natAbs = m.natAbs / 10 := by rw [Int.natAbs_tdiv]; rfl
      have hw : IntKind.wrap .i64 (m.tdiv 10) = m.tdiv 10 := wrap64 (by omega) (by omega)
      have hw2 : IntKind.wrap .i64 ((48 : Int) + ((m.natAbs % 10 : Nat) : Int)) = 48 + ((m.natAbs % 10 : Nat) : Int) := wrap64 (by omega) (by omega)
      have hw3 : IntKind.wrap .u8 ((48 : Int) + ((m.natAbs % 10 : Nat) : Int)) = 48 + ((m.natAbs % 10 : Nat) : Int) := by
        show ((48 : Int) + ((m.natAbs % 10 : Nat) : Int)) % 256 = _
        omega
      have hs : G.s_l01Dec.s0 (ds, m) = some (.inl (ds ++ [48 + ((m.natAbs % 10 : Nat) : Int)], m.tdiv 10)) := by
        simp only [G.s_l01Dec.s0, decide_eq_false h0, cond_false, hd, Option.bind_some, hw, hw2, hw3]
        rw [if_pos ⟨by omega, by omega⟩]
      rw [iter_inl hs, ih (m.tdiv 10) _ (by omega) (by omega) (by simp only [List.length_append, List.length_cons, List.length_nil]; omega), hdiv, revD_pos hna]
      simp
theorem rev_loop (q : List Int) (hq : q.length ≤ 100000000000000) : iter (G.s_l01Dec.s1 q) (([] : List Int), (q.length : Int) - 1) = some (.inl q.reverse) := by
  have hh := iter_go (step := G.s_l01Dec.s1 q) (n := q.length) (A := Unit) (g := fun _ => q.reverse) (fun i _ => (q.reverse.take i, (q.length : Int) - 1 - (i : Int))) (fun _ _ => True) (fun _ => False) ?_ ?_ q.length 0 () (by omega) trivial
  · rcases hh with ⟨_, _, h⟩ | ⟨r, hr, _⟩
    · simpa using h
    · exact hr.elim
  · rintro i _ hi _
    have hd : decide ((0 : Int) ≤ (q.length : Int) - 1 - (i : Int)) = true := decide_eq_true (by omega)
    have hw : IntKind.wrap .i64 ((q.length : Int) - 1 - (i : Int) - 1) = (q.length : Int) - 1 - ((i + 1 : Nat) : Int) := by rw [wrap64 (by omega) (by omega)]; omega
    have hn : ((q.length : Int) - 1 - (i : Int)).toNat = q.length - 1 - i := by omega
    have hl : (q.reverse.take i).length ≤ i := by rw [List.length_take]; omega
    refine .inl ⟨(), ?_, trivial⟩
    simp only [G.s_l01Dec.s1, hd, cond_true, hw, hn]
    rw [if_pos ⟨by omega, by omega⟩, if_pos ⟨by omega, by omega⟩]
    have e : q.getD (q.length - 1 - i) default = q.reverse.getD i default := by
      simp only [List.getD_eq_getElem?_getD]
      rw [List.getElem?_reverse (by omega)]
    rw [e, List.take_succ_eq_append_getElem (by simpa using hi), List.getD_eq_getElem?_getD, List.getElem?_eq_getElem (by simpa using hi), Option.getD_some]
  · rintro _ _
    have hd : decide ((0 : Int) ≤ (q.length : Int) - 1 - (q.length : Int)) = false := decide_eq_false (by omega)
    simp only [G.s_l01Dec.s1, hd, cond_false]
    rw [List.take_of_length_le (by simp)]
theorem p_l01Dec (n : Int) (h : n.natAbs ≤ 10000000000000) : G.s_l01Dec n = some ⟨(Go.Lib.itoa n).toArray⟩ := by
  unfold G.s_l01Dec
  by_cases h0 : n = 0
  · subst h0
    have : Go.Lib.itoa 0 = [48] := by
      show (if (0 : Int) < 0 then _ else Go.Lib.decDigits 0) = _
      rw [if_neg (by omega), Go.Lib.decDigits]
      rfl
    rw [this]
    rfl
  · rw [decide_eq_false h0, cond_false, digits_loop n.natAbs n [] (Nat.le_refl _) h (by rw [List.length_nil]; omega)]
    have hl := revD_len n.natAbs
    have hna : n.natAbs ≠ 0 := by omega
    simp only [jn, Option.bind_some, Sum.elim_inl, List.nil_append]
    by_cases hneg : n < 0
    · rw [decide_eq_true hneg, cond_true, if_pos ⟨by omega, by omega⟩]
      have hw : IntKind.wrap .i64 ((((revD n.natAbs ++ [(45 : Int)]).length : Nat) : Int) - 1) = (((revD n.natAbs ++ [(45 : Int)]).length : Nat) : Int) - 1 := wrap64 (by rw [List.length_append, List.length_cons, List.length_nil]; omega) (by rw [List.length_append, List.length_cons, List.length_nil]; omega)
      simp only [Option.bind_some, hw]
      rw [rev_loop _ (by simp; omega)]
      have : Go.Lib.itoa n = 45 :: Go.Lib.decDigits n.natAbs := by unfold Go.Lib.itoa; rw [if_pos hneg]
      simp only [Option.bind_some, Sum.elim_inl, bytesU_eq, this, dec_rev _ hna, List.reverse_append, List.map_append, List.map_reverse]
      rfl
    · rw [decide_eq_false hneg]
      have hw : IntKind.wrap .i64 ((((revD n.natAbs).length : Nat) : Int) - 1) = (((revD n.natAbs).length : Nat) : Int) - 1 := wrap64 (by omega) (by omega)
      simp only [cond_false, Option.bind_some, hw]
      rw [rev_loop _ (by omega)]
      have ht : n.toNat = n.natAbs := by omega
      have : Go.Lib.itoa n = Go.Lib.decDigits n.natAbs := by unfold Go.Lib.itoa; rw [if_neg hneg, ht]
      simp only [Option.bind_some, Sum.elim_inl, bytesU_eq, this, dec_rev _ hna, List.map_reverse]
end Go.Proofs.YtnhgffhnfegiiaaDoor.Fw
namespace Go.Proofs.YtnhgffhnfegiiaaDoor.Fw
open Go.RowKit
set_option linter.unusedVariables false
set_option linter.unusedSimpArgs false
theorem bapp (L M : List UInt8) : (⟨L.toArray⟩ : ByteArray) ++ ⟨M.toArray⟩ = ⟨(L ++ M).toArray⟩ := by
  apply ByteArray.ext
  simp
/-- The numbers' texts with a comma between. -/
def listL (l : List Int) : List UInt8 := Go.Lib.join (l.map Go.Lib.itoa) [44]
theorem listL_one (x : Int) : listL [x] = Go.Lib.itoa x := by simp [listL, Go.Lib.join, List.intercalate]
theorem join_snoc (xs : List (List UInt8)) (y sep : List UInt8) (h : xs ≠ []) : Go.Lib.join (xs ++ [y]) sep = Go.Lib.join xs sep ++ (sep ++ y) := by
  induction xs with
  | nil => exact absurd rfl h
  | cons x xs ih =>
    cases xs with
    | nil => simp [Go.Lib.join, List.intercalate, List.intersperse]
    | cons z zs =>
      have := ih (by simp)
      simp only [Go.Lib.join, List.intercalate, List.cons_append, List.intersperse, List.flatten_cons] at this ⊢
      rw [this]
      simp only [List.append_assoc]
theorem listL_snoc (l : List Int) (y : Int) (h : l ≠ []) : listL (l ++ [y]) = listL l ++ ([44] ++ Go.Lib.itoa y) := by
  unfold listL
  rw [List.map_append]
  exact join_snoc _ _ _ (by simpa using h)
def smallN (l : List Int) : Prop := ∀ i, i < l.length → -1000000000000 ≤ l.getD i default ∧ l.getD i default ≤ 1000000000000
theorem smallN.abs {l : List Int} (h : smallN l) {i : Nat} (hi : i < l.length) : (l.getD i default).natAbs ≤ 1000000000000 := by have := h i hi; omega
theorem take_snocI {l : List Int} {i : Nat} (hi : i < l.length) : l.take i ++ [l.getD i default] = l.take (i + 1) := by
  rw [List.take_succ_eq_append_getElem hi, List.getD_eq_getElem?_getD, List.getElem?_eq_getElem hi, Option.getD_some]
theorem listL_len {l : List Int} (h : smallN l) : ∀ i, i ≤ l.length → (listL (l.take i)).length ≤ i * 1000000000010 := by
  intro i
  induction i with
  | zero => intro _; simp [listL, Go.Lib.join, List.intercalate]
  | succ i ih =>
    intro hi
    have h1 := ih (by omega)
    have h2 := itoa_len (l.getD i default)
    have h3 := h.abs (i := i) (by omega)
    rw [← take_snocI (by omega)]
    by_cases c : l.take i = []
    · rw [c, List.nil_append, listL_one]; omega
    · rw [listL_snoc _ _ c]
      simp only [List.length_append, List.length_cons, List.length_nil]
      omega
theorem take_ne {l : List Int} {i : Nat} (h0 : 0 < i) (hi : i ≤ l.length) : l.take i ≠ [] := by
  intro h
  have := congrArg List.length h
  rw [List.length_take, List.length_nil] at this
  omega
theorem p_l01List (l : List Int) (h : smallN l) (hn : l.length ≤ 64) : G.s_l01List l = some (if l = [] then ⟨#[45]⟩ else ⟨(listL l).toArray⟩) := by
  unfold G.s_l01List
  by_cases h0 : l = []
  · subst h0; rfl
  · have hl0 : l.length ≠ 0 := by simpa using h0
    rw [decide_eq_false (by omega), cond_false, if_neg h0]
    have hh := iter_go (step := G.s_l01List.s0 l) (n := l.length) (A := Unit) (g := fun _ => (⟨(listL l).toArray⟩ : ByteArray)) (fun i _ => ((⟨(listL (l.take i)).toArray⟩ : ByteArray), (i : Int))) (fun _ _ => True) (fun _ => False) ?_ ?_ l.length 0 () (by omega) trivial
    · rcases hh with ⟨_, _, h⟩ | ⟨r, hr, _⟩
      · have h : iter (G.s_l01List.s0 l) ((⟨#[]⟩ : ByteArray), 0) = _ := h
        rw [h]
        rfl
      · exact hr.elim
    · rintro i _ hi _
      have hd : decide ((i : Int) < ((l.length : Nat) : Int)) = true := decide_eq_true (by omega)
      have hw : IntKind.wrap .i64 ((i : Int) + 1) = ((i + 1 : Nat) : Int) := by rw [wrap64 (by omega) (by omega)]; omega
      have hln := listL_len h i (by omega)
      have hsz : ∀ L : List UInt8, (⟨L.toArray⟩ : ByteArray).size = L.length := fun L => by simp [ByteArray.size]
      have hab := h.abs hi
      have hit := itoa_len (l.getD i default)
      refine .inl ⟨(), ?_, trivial⟩
      simp only [G.s_l01List.s0, hd, cond_true, Int.toNat_natCast, hw]
      by_cases c : 0 < i
      · have hc : decide ((0 : Int) < (i : Int)) = true := decide_eq_true (by omega)
        have hsnoc := listL_snoc (l.take i) (l.getD i default) (take_ne c (by omega))
        rw [take_snocI hi] at hsnoc
        have hb : (⟨(listL (l.take i)).toArray⟩ : ByteArray) ++ ⟨#[44]⟩ = ⟨(listL (l.take i) ++ [44]).toArray⟩ := bapp _ [44]
        simp only [hc, cond_true, hsz]
        rw [if_neg (by omega), hb]
        simp only [Option.bind_some]
        rw [if_pos ⟨by omega, by omega⟩, p_l01Dec _ (by omega)]
        simp only [Option.bind_some, hsz]
        rw [if_neg (by simp only [List.length_append, List.length_cons, List.length_nil]; omega), bapp, hsnoc, List.append_assoc]
      · have hi0 : i = 0 := by omega
        subst hi0
        have hc : decide ((0 : Int) < ((0 : Nat) : Int)) = false := rfl
        simp only [hc, cond_false, Option.bind_some]
        rw [if_pos ⟨by omega, by omega⟩, p_l01Dec _ (by omega)]
        simp only [Option.bind_some, hsz]
        rw [if_neg (by omega), bapp, ← take_snocI hi]
        simp only [List.take_zero, List.nil_append, listL_one]
        rfl
    · rintro _ _
      have hd : decide (((l.length : Nat) : Int) < ((l.length : Nat) : Int)) = false := by simp
      simp only [G.s_l01List.s0, hd, cond_false, List.take_length]
theorem p_ListText (l : List Int) (h : smallN l) (hn : l.length ≤ 64) : G.i_ListText l = some (if l = [] then ⟨#[45]⟩ else ⟨(listL l).toArray⟩) := by
  unfold G.i_ListText
  rw [decide_eq_false (by omega)]
  have h1 := iter_scan (step := G.i_ListText.s0 l) (n := l.length) (p := fun _ => true) (v := ()) (r := (⟨#[]⟩ : ByteArray)) ?_ ?_ l.length 0 (by omega)
  · have h1 : iter (G.i_ListText.s0 l) 0 = some (.inl ()) := by
      have : (List.range' 0 l.length).all (fun _ => true) = true := by simp
      rw [this] at h1
      exact h1
    rw [cond_false, h1]
    simp only [jn, Option.bind_some, Sum.elim_inl]
    by_cases h0 : l = []
    · subst h0; rfl
    · have hl0 : l.length ≠ 0 := by simpa using h0
      rw [decide_eq_false (by omega), cond_false, if_neg h0]
      have h2 := iter_go (step := G.i_ListText.s1 l) (n := l.length) (A := Unit) (g := fun _ => l.map fun n => (⟨(Go.Lib.itoa n).toArray⟩ : ByteArray)) (fun i _ => ((l.take i).map fun n => (⟨(Go.Lib.itoa n).toArray⟩ : ByteArray), (i : Int))) (fun _ _ => True) (fun _ => False) ?_ ?_ l.length 0 () (by omega) trivial
      · rcases h2 with ⟨_, _, h2⟩ | ⟨r, hr, _⟩
        · have h2 : iter (G.i_ListText.s1 l) ([], 0) = _ := h2
          rw [h2]
          have hm : (l.map fun n => (⟨(Go.Lib.itoa n).toArray⟩ : ByteArray)).map (·.data.toList) = l.map Go.Lib.itoa := by simp
          have hj : Go.Lib.join ((l.map fun n => (⟨(Go.Lib.itoa n).toArray⟩ : ByteArray)).map (·.data.toList)) (⟨#[44]⟩ : ByteArray).data.toList = listL l := by rw [hm]; rfl
          have hln := listL_len h l.length (Nat.le_refl _)
          rw [List.take_length] at hln
          simp only [Option.bind_some, Sum.elim_inl, G.strings_Join]
          rw [hj, if_pos ⟨by rw [List.length_map]; omega, by omega⟩]
          rfl
        · exact hr.elim
      · rintro i _ hi _
        have hd : decide ((i : Int) < ((l.length : Nat) : Int)) = true := decide_eq_true (by omega)
        have hw : IntKind.wrap .i64 ((i : Int) + 1) = ((i + 1 : Nat) : Int) := by rw [wrap64 (by omega) (by omega)]; omega
        have hi2 := h i hi
        have hl : (l.take i).length ≤ i := by rw [List.length_take]; omega
        have hdec : G.i_Decimal (l.getD i default) = some ⟨(Go.Lib.itoa (l.getD i default)).toArray⟩ := by
          simp only [G.i_Decimal, G.strconv_FormatInt]
          rw [if_pos (by refine ⟨?_, ?_, ?_⟩ <;> first | trivial | omega)]
          rfl
        refine .inl ⟨(), ?_, trivial⟩
        simp only [G.i_ListText.s1, hd, cond_true, Int.toNat_natCast, hw, hdec, Option.bind_some, List.length_map]
        rw [if_pos ⟨by omega, by omega⟩, if_pos ⟨by omega, by omega⟩, ← take_snocI hi]
        simp only [List.map_append, List.map_cons, List.map_nil]
      · rintro _ _
        have hd : decide (((l.length : Nat) : Int) < ((l.length : Nat) : Int)) = false := by simp
        simp only [G.i_ListText.s1, hd, cond_false, List.take_length]
  · intro i hi
    have hd : decide ((i : Int) < ((l.length : Nat) : Int)) = true := decide_eq_true (by omega)
    have hw : IntKind.wrap .i64 ((i : Int) + 1) = ((i + 1 : Nat) : Int) := by rw [wrap64 (by omega) (by omega)]; omega
    have hi2 := h i hi
    have hin : inR (l.getD i default) (-1000000000000) 1000000000000 = true := by simp only [inR, Bool.and_eq_true, decide_eq_true_eq]; omega
    simp only [G.i_ListText.s0, hd, cond_true, Int.toNat_natCast, hw, p_within, hin, Option.bind_some, if_true]
    rw [if_pos ⟨by omega, by omega⟩]
  · have hd : decide (((l.length : Nat) : Int) < ((l.length : Nat) : Int)) = false := by simp
    simp only [G.i_ListText.s0, hd, cond_false]
end Go.Proofs.YtnhgffhnfegiiaaDoor.Fw
namespace Go.Proofs.YtnhgffhnfegiiaaDoor.Fw
open Go.RowKit
set_option linter.unusedVariables false
set_option linter.unusedSimpArgs false
theorem nameOk_size {s : ByteArray} (h : nameOk s = true) : s.size ≤ 10 := by
  simp only [nameOk, Bool.and_eq_true, Bool.not_eq_true', Bool.or_eq_false_iff, decide_eq_false_iff_not] at h
  omega
theorem small3 {a b c : Int} (ha : -10000 ≤ a ∧ a ≤ 10000) (hb : -10000 ≤ b ∧ b ≤ 10000) (hc : -10000 ≤ c ∧ c ≤ 10000) : smallN [a, b, c] := by
  intro i hi
  have hi' : i < 3 := hi
  have : i = 0 ∨ i = 1 ∨ i = 2 := by omega
  rcases this with rfl | rfl | rfl
  · show -1000000000000 ≤ a ∧ a ≤ _; omega
  · show -1000000000000 ≤ b ∧ b ≤ _; omega
  · show -1000000000000 ≤ c ∧ c ≤ _; omega
def bondT (x : TBond) : ByteArray := if bondB x = true then (x.Name ++ ⟨#[32]⟩) ++ ⟨(listL [x.Spread, x.Open, x.Press]).toArray⟩ else ⟨#[]⟩
theorem bond_list {x : TBond} (h : bondR x) : smallN [x.Spread, x.Open, x.Press] := by
  unfold bondR at h
  exact small3 (by omega) (by omega) (by omega)
theorem bond_size {x : TBond} (h : bondR x) : (⟨(listL [x.Spread, x.Open, x.Press]).toArray⟩ : ByteArray).size ≤ 10000000000000 := by
  have := listL_len (bond_list h) 3 (Nat.le_refl _)
  have h2 : (⟨(listL [x.Spread, x.Open, x.Press]).toArray⟩ : ByteArray).size = (listL [x.Spread, x.Open, x.Press]).length := by simp [ByteArray.size]
  have h3 : ([x.Spread, x.Open, x.Press] : List Int).take 3 = [x.Spread, x.Open, x.Press] := rfl
  rw [h3] at this
  omega
theorem p_sBondText (x : TBond) (hx : fitBond x) : G.s_BondText x.Name x.Spread x.Open x.Press = some (bondT x) := by
  simp only [G.s_BondText, p_l24One x hx, Option.bind_some, bondT]
  cases hb : bondB x with
  | false => rfl
  | true =>
    have hn : nameOk x.Name = true := by simp only [bondB, Bool.and_eq_true] at hb; exact hb.1.1.1
    have h1 := nameOk_size hn
    have h2 := bond_size (bondB_R hb)
    simp only [cond_true, G.s_l24Text]
    rw [if_neg (by omega), p_l01List _ (bond_list (bondB_R hb)) (by simp)]
    have hne : ¬ ([x.Spread, x.Open, x.Press] : List Int) = [] := by simp
    simp only [if_neg hne, Option.bind_some]
    rw [if_neg (by omega)]
    rfl
theorem p_iBondText (x : TBond) (hx : fitBond x) : G.i_BondText x.Name x.Spread x.Open x.Press = some (bondT x) := by
  simp only [G.i_BondText, p_ValidBond x hx, Option.bind_some, bondT]
  cases hb : bondB x with
  | false => rfl
  | true =>
    have hn : nameOk x.Name = true := by simp only [bondB, Bool.and_eq_true] at hb; exact hb.1.1.1
    have h1 := nameOk_size hn
    have h2 := bond_size (bondB_R hb)
    simp only [cond_true]
    rw [if_neg (by omega), p_ListText _ (bond_list (bondB_R hb)) (by simp)]
    have hne : ¬ ([x.Spread, x.Open, x.Press] : List Int) = [] := by simp
    simp only [if_neg hne, Option.bind_some]
    rw [if_neg (by omega)]
    rfl
theorem law_BondText (x : TBond) (hx : fitBond x) : G.l_FnExactBondText x.Name x.Spread x.Open x.Press = some true := by
  obtain ⟨q, hq, _⟩ := p_szBond x hx 1048576 (by omega) (by omega)
  unfold G.l_FnExactBondText
  rw [hq, Option.bind_some]
  by_cases c : q < 0
  · rw [decide_eq_true c]; rfl
  · rw [decide_eq_false c]
    simp only [cond_false, p_toBond, Option.bind_some, p_sBondText x hx, p_iBondText x hx, decide_true, cond_true]
theorem ret_FnExactBondText (v0 : ByteArray) (b0 : v0.size ≤ 9223372036854775807) (v1 : Int) (_ : IntKind.min .i64 ≤ v1) (_ : v1 ≤ IntKind.max .i64) (v2 : Int) (_ : IntKind.min .i64 ≤ v2) (_ : v2 ≤ IntKind.max .i64) (v3 : Int) (_ : IntKind.min .i64 ≤ v3) (_ : v3 ≤ IntKind.max .i64) :
    Ret Tryd.prog 3 none [.agg [.c (.v (.string v0)), .c (.v (.int .i64 v1)), .c (.v (.int .i64 v2)), .c (.v (.int .i64 v3))]] [] (.c (.v (.bool true))) :=
  ret_l_FnExactBondText v0 v1 v2 v3 (law_BondText ⟨v0, v1, v2, v3⟩ b0)
end Go.Proofs.YtnhgffhnfegiiaaDoor.Fw
