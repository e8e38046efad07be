/- What the functions without memory come to. No condition. -/
import Derived.Test.YtihjdodmlddffaaDoorHCma
import Derived.Test.YtihjdodmlddffaaDoorFwGf
import Derived.Test.YtihjdodmlddffaaDoorFwZb
namespace Go.Proofs.YtihjdodmlddffaaDoor.Fw
open Go.RowKit
set_option linter.unusedVariables false
set_option linter.unusedSimpArgs false
theorem all_getD {a b : List Int} (hl : a.length = b.length) : ((List.range' 0 a.length).all fun i => decide (a.getD i default = b.getD i default)) = decide (a = b) := by
  rw [Bool.eq_iff_iff, List.all_eq_true, decide_eq_true_eq]
  constructor
  · intro h
    refine List.ext_getElem hl fun i h1 h2 => ?_
    have := h i (by simp [List.mem_range'_1]; exact h1)
    simpa [List.getD_eq_getElem?_getD, h1, h2] using this
  · rintro rfl i _
    simp
end Go.Proofs.YtihjdodmlddffaaDoor.Fw
namespace Go.Proofs.YtihjdodmlddffaaDoor.Fw
open Go.RowKit
set_option linter.unusedVariables false
set_option linter.unusedSimpArgs false
def inR (n lo hi : Int) : Bool := decide (lo ≤ n) && decide (n ≤ hi)
theorem p_within (n lo hi : Int) : G.i_within n lo hi = some (inR n lo hi) := by
  unfold G.i_within inR; cases decide (lo ≤ n) <;> rfl
theorem p_l00In (n lo hi : Int) : G.s_l00In n lo hi = some (inR n lo hi) := by
  unfold G.s_l00In inR; cases decide (lo ≤ n) <;> rfl
theorem all_getDL {α : Type} [Inhabited α] [DecidableEq α] {a b : List α} (hl : a.length = b.length) : ((List.range' 0 a.length).all fun i => decide (a.getD i default = b.getD i default)) = decide (a = b) := by
  rw [Bool.eq_iff_iff, List.all_eq_true, decide_eq_true_eq]
  constructor
  · intro h
    refine List.ext_getElem hl fun i h1 h2 => ?_
    have := h i (by simp [List.mem_range'_1]; exact h1)
    simpa [List.getD_eq_getElem?_getD, h1, h2] using this
  · rintro rfl i _
    simp
theorem makeOk_of {n : Nat} {b : Nat} (h : n ≤ 1048576) (hb : b ≤ 1000) : makeOk (n : Int) (n : Int) b := by
  unfold makeOk
  have h1 : n * b ≤ 1048576 * 1000 := Nat.mul_le_mul h hb
  have h2 : (b : Int) * (n : Int) = ((n * b : Nat) : Int) := by rw [Int.natCast_mul, Int.mul_comm]
  refine ⟨?_, ?_, ?_, ?_⟩ <;> omega
end Go.Proofs.YtihjdodmlddffaaDoor.Fw
namespace Go.Proofs.YtihjdodmlddffaaDoor.Fw
open Go.RowKit
set_option linter.unusedVariables false
set_option linter.unusedSimpArgs false
theorem root_loop {R : Type} (n : Int) (h1 : 1 ≤ n) (hn : n ≤ 9223372036854775807) (step : Int × Int → Option ((Int × Int) ⊕ (Int ⊕ R)))
    (hs : ∀ lo hi, 1 ≤ lo → lo < hi → hi ≤ 3037000499 → step (lo, hi) = some (.inl (if ((lo + hi + 1) / 2) * ((lo + hi + 1) / 2) ≤ n then ((lo + hi + 1) / 2, hi) else (lo, (lo + hi + 1) / 2 - 1))))
    (he : ∀ lo hi, ¬ lo < hi → step (lo, hi) = some (.inr (.inl lo))) :
    ∃ r, iter step ((1 : Int), (3037000499 : Int)) = some (.inl r) ∧ 1 ≤ r ∧ r ≤ 3037000499 ∧ r * r ≤ n ∧ n < (r + 1) * (r + 1) := by
  have key : ∀ (m : Nat) (lo hi : Int), hi - lo ≤ (m : Int) → 1 ≤ lo → lo ≤ hi → hi ≤ 3037000499 → lo * lo ≤ n → n < (hi + 1) * (hi + 1) →
      ∃ r, iter step (lo, hi) = some (.inl r) ∧ 1 ≤ r ∧ r ≤ 3037000499 ∧ r * r ≤ n ∧ n < (r + 1) * (r + 1) := by
    intro m
    induction m with
    | zero =>
      intro lo hi g1 g2 g3 g4 g5 g6
      obtain rfl : lo = hi := by omega
      exact ⟨lo, iter_inr (he lo lo (by omega)), g2, g4, g5, g6⟩
    | succ m ih =>
      intro lo hi g1 g2 g3 g4 g5 g6
      by_cases c : lo < hi
      · by_cases c2 : ((lo + hi + 1) / 2) * ((lo + hi + 1) / 2) ≤ n
        · obtain ⟨r, k⟩ := ih ((lo + hi + 1) / 2) hi (by omega) (by omega) (by omega) g4 c2 g6
          refine ⟨r, (iter_inl ?_).trans k.1, k.2⟩
          rw [hs lo hi g2 c g4, if_pos c2]
        · obtain ⟨r, k⟩ := ih lo ((lo + hi + 1) / 2 - 1) (by omega) (by omega) (by omega) (by omega) g5 (by rw [Int.sub_add_cancel]; omega)
          refine ⟨r, (iter_inl ?_).trans k.1, k.2⟩
          rw [hs lo hi g2 c g4, if_neg c2]
      · obtain rfl : lo = hi := by omega
        exact ⟨lo, iter_inr (he lo lo (by omega)), g2, g4, g5, g6⟩
  exact key 3037000499 1 3037000499 (by omega) (by omega) (by omega) (by omega) (by omega) (by omega)
theorem mid_iff {m n : Int} (h : 0 < m) (hn : 0 ≤ n) : m ≤ n.tdiv m ↔ m * m ≤ n := by
  rw [Int.tdiv_eq_ediv_of_nonneg hn, Int.le_ediv_iff_mul_le h]
/-- The nearest quotient of what is not negative. -/
def nearA (A b : Int) : Int := if b - A % b ≤ A % b then A / b + 1 else A / b
def near (a b : Int) : Int := if a < 0 then -nearA (-a) b else nearA a b
theorem nearA_nonneg {A b : Int} (hA : 0 ≤ A) (hb : 0 < b) : 0 ≤ nearA A b := by
  have := Int.ediv_nonneg hA (Int.le_of_lt hb)
  unfold nearA; split <;> omega
theorem nearA_err {A b : Int} (hA : 0 ≤ A) (hb : 0 < b) : -b ≤ 2 * (A - nearA A b * b) ∧ 2 * (A - nearA A b * b) ≤ b := by
  have h1 := Int.mul_ediv_add_emod A b
  have h2 := Int.emod_nonneg A (Int.ne_of_gt hb)
  have h3 := Int.emod_lt_of_pos A hb
  have h4 : A / b * b = b * (A / b) := Int.mul_comm _ _
  unfold nearA
  split
  · rw [Int.add_mul, Int.one_mul, h4]; omega
  · rw [h4]; omega
theorem nearA_le {A b D : Int} (hA : 0 ≤ A) (hb : 0 < b) (h : A ≤ D * b) : nearA A b ≤ D := by
  have h1 := Int.mul_ediv_add_emod A b
  have h2 := Int.emod_nonneg A (Int.ne_of_gt hb)
  have h3 : A / b ≤ D := Int.ediv_le_of_le_mul hb h
  unfold nearA
  split
  · by_cases e : A / b = D
    · rw [e, Int.mul_comm] at h1
      omega
    · omega
  · exact h3
theorem nearA_zero {b : Int} (hb : 0 < b) : nearA 0 b = 0 := by
  unfold nearA
  rw [Int.zero_emod, Int.zero_ediv, if_neg (by omega)]
theorem near_neg (a b : Int) (hb : 0 < b) : near (-a) b = -near a b := by
  unfold near
  by_cases h : a < 0
  · rw [if_neg (by omega), if_pos h, Int.neg_neg]
  · by_cases h0 : a = 0
    · subst h0
      rw [if_neg (by omega), if_neg (by omega), Int.neg_zero, nearA_zero hb]
      rfl
    · rw [if_pos (by omega), if_neg h, Int.neg_neg]
theorem near_err (a b : Int) (hb : 0 < b) : -b ≤ 2 * (a - near a b * b) ∧ 2 * (a - near a b * b) ≤ b := by
  unfold near
  split
  · have := nearA_err (A := -a) (b := b) (by omega) hb
    rw [Int.neg_mul]
    omega
  · exact nearA_err (by omega) hb
theorem near_between {a b D : Int} (hb : 0 < b) (h0 : 0 ≤ a) (h : a ≤ D * b) : 0 ≤ near a b ∧ near a b ≤ D := by
  unfold near
  rw [if_neg (by omega)]
  exact ⟨nearA_nonneg h0 hb, nearA_le h0 hb h⟩
end Go.Proofs.YtihjdodmlddffaaDoor.Fw
namespace Go.Proofs.YtihjdodmlddffaaDoor.Fw
open Go.RowKit
set_option linter.unusedVariables false
set_option linter.unusedSimpArgs false
def bytesOk (c : List Int) : Prop := c.length ≤ 1048576 ∧ ∀ x ∈ c, 0 ≤ x ∧ x ≤ 255
def srcOk (c : List Int) (m : Int) (s : Tl00Src) : Prop := s.code = c ∧ 0 ≤ s.at_ ∧ s.at_ ≤ m
theorem srcOk.mono {c : List Int} {m n : Int} {s : Tl00Src} (h : srcOk c m s) (hn : m ≤ n) : srcOk c n s := ⟨h.1, h.2.1, by have := h.2.2; omega⟩
theorem and255 (x : BitVec 64) : 0 ≤ ((x &&& BitVec.ofInt 64 255).toNat : Int) ∧ ((x &&& BitVec.ofInt 64 255).toNat : Int) ≤ 255 := by
  have h : (x &&& BitVec.ofInt 64 255).toNat ≤ 255 := by
    rw [BitVec.toNat_and]
    exact Nat.le_trans Nat.and_le_right (by decide)
  omega
theorem wrapU64 {x : Int} (h1 : 0 ≤ x) (h2 : x ≤ 9223372036854775807) : IntKind.wrap .u64 x = x := by
  show x % 18446744073709551616 = x
  omega
theorem p_next {c : List Int} (hc : bytesOk c) {m : Int} (hm : m ≤ 1000000000000) {s : Tl00Src} (h : srcOk c m s) : ∃ s' v, G.s_l00Src_next s.code s.at_ s.seed = some (s', v) ∧ srcOk c (m + 1) s' ∧ 0 ≤ v ∧ v ≤ 255 := by
  obtain ⟨h1, h2, h3⟩ := h
  obtain ⟨hc1, hc2⟩ := hc
  unfold G.s_l00Src_next
  rw [h1]
  have hw : IntKind.wrap .i64 (s.at_ + 1) = s.at_ + 1 := wrap64 (by omega) (by omega)
  have hb : ∃ q, (bif (decide (s.at_ < ((c.length : Nat) : Int))) then (if 0 ≤ s.at_ ∧ s.at_ < ((c.length : Nat) : Int) then (some (IntKind.wrap .i64 (c.getD s.at_.toNat default))) else none) else (some (0 : Int))) = some q ∧ 0 ≤ q ∧ q ≤ 255 := by
    by_cases c1 : s.at_ < ((c.length : Nat) : Int)
    · rw [decide_eq_true c1, cond_true, if_pos ⟨h2, c1⟩]
      have hg : c.getD s.at_.toNat default ∈ c := by
        rw [List.getD_eq_getElem?_getD, List.getElem?_eq_getElem (by omega), Option.getD_some]
        exact List.getElem_mem _
      have := hc2 _ hg
      exact ⟨_, rfl, by rw [wrap64 (by omega) (by omega)]; omega⟩
    · rw [decide_eq_false c1]
      exact ⟨0, rfl, by omega, by omega⟩
  obtain ⟨q, hq, hq1, hq2⟩ := hb
  rw [hq, Option.bind_some, hw]
  by_cases c2 : s.at_ + 1 ≤ ((c.length : Nat) : Int)
  · rw [decide_eq_true c2]
    exact ⟨_, _, rfl, ⟨rfl, by show 0 ≤ s.at_ + 1; omega, by show s.at_ + 1 ≤ m + 1; omega⟩, hq1, hq2⟩
  · rw [decide_eq_false c2]
    refine ⟨_, _, rfl, ⟨rfl, by show 0 ≤ s.at_ + 1; omega, by show s.at_ + 1 ≤ m + 1; omega⟩, ?_⟩
    have key := and255 (BitVec.ofInt 64 ((IntKind.wrap .u64 ((IntKind.wrap .u64 ((IntKind.wrap .u64 (s.seed * (6364136223846793005 : Int))) + (IntKind.wrap .u64 q))) + (1442695040888963407 : Int))).fdiv (2 ^ 40)))
    show 0 ≤ IntKind.wrap .i64 (IntKind.wrap .u64 (((BitVec.ofInt 64 ((IntKind.wrap .u64 ((IntKind.wrap .u64 ((IntKind.wrap .u64 (s.seed * (6364136223846793005 : Int))) + (IntKind.wrap .u64 q))) + (1442695040888963407 : Int))).fdiv (2 ^ 40)) &&& BitVec.ofInt 64 255).toNat : Nat) : Int)) ∧ IntKind.wrap .i64 (IntKind.wrap .u64 (((BitVec.ofInt 64 ((IntKind.wrap .u64 ((IntKind.wrap .u64 ((IntKind.wrap .u64 (s.seed * (6364136223846793005 : Int))) + (IntKind.wrap .u64 q))) + (1442695040888963407 : Int))).fdiv (2 ^ 40)) &&& BitVec.ofInt 64 255).toNat : Nat) : Int)) ≤ 255
    generalize ((((BitVec.ofInt 64 ((IntKind.wrap .u64 ((IntKind.wrap .u64 ((IntKind.wrap .u64 (s.seed * (6364136223846793005 : Int))) + (IntKind.wrap .u64 q))) + (1442695040888963407 : Int))).fdiv (2 ^ 40)) &&& BitVec.ofInt 64 255).toNat : Nat) : Int)) = z at key
    rw [wrapU64 (by omega) (by omega), wrap64 (by omega) (by omega)]
    exact key
theorem p_pick {c : List Int} (hc : bytesOk c) {m : Int} (hm : m ≤ 100000000000) {s : Tl00Src} (h : srcOk c m s) (n : Int) (hn : n ≤ 1000000000000) : ∃ s' v, G.s_l00Src_pick s.code s.at_ s.seed n = some (s', v) ∧ srcOk c (m + 2) s' ∧ 0 ≤ v ∧ (1 ≤ n → v < n) := by
  unfold G.s_l00Src_pick
  by_cases c1 : n ≤ 1
  · rw [decide_eq_true c1]
    exact ⟨_, 0, rfl, ⟨h.1, h.2.1, by have := h.2.2; show s.at_ ≤ m + 2; omega⟩, by omega, by omega⟩
  · rw [decide_eq_false c1]
    obtain ⟨s1, v1, e1, h1, b1, b2⟩ := p_next hc (by omega) h
    rw [cond_false, e1, Option.bind_some]
    by_cases c2 : 200 < n
    · rw [decide_eq_true c2]
      obtain ⟨s2, v2, e2, h2, b3, b4⟩ := p_next hc (m := m + 1) (by omega) h1
      simp only [cond_true, e2, Option.bind_some]
      rw [if_neg (by omega), wrap64 (x := v1 * 256) (by omega) (by omega), wrap64 (x := v1 * 256 + v2) (by omega) (by omega)]
      refine ⟨_, _, rfl, ⟨h2.1, h2.2.1, by have := h2.2.2; show s2.at_ ≤ m + 2; omega⟩, Int.tmod_nonneg _ (by omega), fun _ => Int.tmod_lt_of_pos _ (by omega)⟩
    · rw [decide_eq_false c2]
      simp only [cond_false, Option.bind_some]
      rw [if_neg (by omega)]
      refine ⟨_, _, rfl, ⟨h1.1, h1.2.1, by have := h1.2.2; show s1.at_ ≤ m + 2; omega⟩, Int.tmod_nonneg _ (by omega), fun _ => Int.tmod_lt_of_pos _ (by omega)⟩
theorem mem_getD {α : Type} [Inhabited α] {l : List α} {i : Nat} (hi : i < l.length) : l.getD i default ∈ l := by
  rw [List.getD_eq_getElem?_getD, List.getElem?_eq_getElem hi, Option.getD_some]
  exact List.getElem_mem hi
theorem p_among {c : List Int} (hc : bytesOk c) {m : Int} (hm : m ≤ 100000000000) {s : Tl00Src} (h : srcOk c m s) (l : List Int) (h0 : 1 ≤ l.length) (hl : l.length ≤ 1000000) : ∃ s' v, G.s_l00Src_among s.code s.at_ s.seed l = some (s', v) ∧ srcOk c (m + 2) s' ∧ v ∈ l := by
  obtain ⟨s1, v, e, h1, b1, b2⟩ := p_pick hc hm h ((l.length : Nat) : Int) (by omega)
  have := b2 (by omega)
  refine ⟨s1, _, by rw [G.s_l00Src_among, e, Option.bind_some, if_pos ⟨b1, this⟩], h1, mem_getD (by omega)⟩
theorem bytes_in {rows : List (List CV)} (h : ∀ r ∈ rows, Okl [.int .u8] r) : ∃ a : List Int, rows = mapR rI_u8 a ∧ ∀ x ∈ a, 0 ≤ x ∧ x ≤ 255 := by
  refine rows_of (f := rI_u8) (rows := rows) (fun r hr => ?_)
  obtain ⟨y0, ys0, rfl, e0, k0⟩ := okcons (h r hr)
  obtain rfl := oknil k0
  obtain ⟨v0, rfl, b0, c0⟩ := okint e0
  exact ⟨v0, rfl, b0, c0⟩
end Go.Proofs.YtihjdodmlddffaaDoor.Fw
namespace Go.Proofs.YtihjdodmlddffaaDoor.Fw
open Go.RowKit
set_option linter.unusedVariables false
set_option linter.unusedSimpArgs false
theorem p_nearest (a b : Int) (hb : 1 ≤ b) (hb2 : b ≤ 1000000000000) (ha : -10000000000000 ≤ a) (ha2 : a ≤ 10000000000000) : G.i_nearest a b = some (near a b) := by
  unfold G.i_nearest
  rw [decide_eq_false (by omega), cond_false, wrap64 (x := 0 - b) (by omega) (by omega), wrap64 (x := 0 - a) (by omega) (by omega), show max b (0 - b) = b by omega]
  have key : ∀ A : Int, 0 ≤ A → A ≤ 10000000000000 → ((bif decide (IntKind.wrap .i64 (b - A.tmod b) ≤ A.tmod b) then some (IntKind.wrap .i64 (IntKind.wrap .i64 (A.tdiv b) + 1)) else some (IntKind.wrap .i64 (A.tdiv b))) : Option Int) = some (nearA A b) := by
    intro A h0 h1
    have e1 : A.tmod b = A % b := Int.tmod_eq_emod_of_nonneg h0
    have e2 : A.tdiv b = A / b := Int.tdiv_eq_ediv_of_nonneg h0
    have h2 := Int.emod_nonneg A (show b ≠ 0 by omega)
    have h3 := Int.emod_lt_of_pos A (show 0 < b by omega)
    have h4 : A / b ≤ A := Int.ediv_le_self _ h0
    have h5 : 0 ≤ A / b := Int.ediv_nonneg h0 (by omega)
    rw [e1, e2, wrap64 (x := b - A % b) (by omega) (by omega), wrap64 (x := A / b) (by omega) (by omega), wrap64 (x := A / b + 1) (by omega) (by omega)]
    unfold nearA
    by_cases c : b - A % b ≤ A % b
    · rw [decide_eq_true c, if_pos c, cond_true]
    · rw [decide_eq_false c, if_neg c, cond_false]
  rw [if_neg (by omega), if_neg (by omega), key (max a (0 - a)) (by omega) (by omega), Option.bind_some]
  rw [decide_eq_false (show ¬ b < 0 by omega)]
  have hle : nearA (max a (0 - a)) b ≤ max a (0 - a) := nearA_le (by omega) (by omega) (by
    have := Int.mul_le_mul_of_nonneg_left (a := 1) (b := b) (c := max a (0 - a)) hb (by omega)
    rw [Int.mul_one] at this
    exact this)
  have hge := nearA_nonneg (A := max a (0 - a)) (b := b) (by omega) (by omega)
  unfold near
  by_cases c : a < 0
  · rw [decide_eq_true c, if_pos c, wrap64 (by omega) (by omega), show max a (0 - a) = -a by omega]
    simp
  · rw [decide_eq_false c, if_neg c, show max a (0 - a) = a by omega]
    simp
theorem p_r8At (c : List Int) (hc : bytesOk c) (k n : Int) (hk : 0 ≤ k) (hn : n ≤ 1000000000) : ∃ v, G.l_r8At c k n = some v ∧ 0 ≤ v ∧ v ≤ 255 ∧ (1 ≤ n → v < n) := by
  unfold G.l_r8At
  by_cases c1 : n ≤ 1
  · rw [decide_eq_true c1]
    exact ⟨0, rfl, by omega, by omega, by omega⟩
  · rw [decide_eq_false c1, cond_false, Option.bind_some]
    by_cases c2 : ((c.length : Nat) : Int) ≤ k
    · rw [decide_eq_true c2]
      exact ⟨0, rfl, by omega, by omega, by omega⟩
    · have hb := hc.2 _ (mem_getD (l := c) (i := k.toNat) (by omega))
      rw [decide_eq_false c2, cond_false, if_pos ⟨by omega, by omega⟩, if_neg (by omega), wrap64 (by omega) (by omega)]
      have h1 := Int.tmod_lt_of_pos (c.getD k.toNat default) (show 0 < n by omega)
      have h2 := Int.tmod_nonneg n hb.1
      have h3 : (c.getD k.toNat default).tmod n ≤ c.getD k.toNat default := by
        rw [Int.tmod_eq_emod_of_nonneg hb.1]
        have g1 := Int.mul_ediv_add_emod (c.getD k.toNat default) n
        have g2 := Int.mul_nonneg (show 0 ≤ n by omega) (Int.ediv_nonneg hb.1 (show 0 ≤ n by omega))
        omega
      exact ⟨_, rfl, h2, by omega, fun _ => h1⟩
end Go.Proofs.YtihjdodmlddffaaDoor.Fw
namespace Go.Proofs.YtihjdodmlddffaaDoor.Fw
open Go.RowKit
set_option linter.unusedVariables false
set_option linter.unusedSimpArgs false
end Go.Proofs.YtihjdodmlddffaaDoor.Fw
namespace Go.Proofs.YtihjdodmlddffaaDoor.Fw
open Go.RowKit
set_option linter.unusedVariables false
set_option linter.unusedSimpArgs false
def chOk (c : Int) : Bool := inR c 97 122 || inR c 48 57
def nameOk (s : ByteArray) : Bool := !(decide (s.size = 0) || decide ((10 : Int) < ((s.size : Nat) : Int))) && (inR (byteAt s 0) 97 122 && (List.range' 0 s.size).all fun i => chOk (byteAt s i))
theorem lt_not (a b : Int) : decide (a < b) = !decide (b ≤ a) := by
  by_cases h : a < b
  · simp [h, Int.not_le.2 h]
  · simp [h, Int.not_lt.1 h]
end Go.Proofs.YtihjdodmlddffaaDoor.Fw
namespace Go.Proofs.YtihjdodmlddffaaDoor.Fw
open Go.RowKit
set_option linter.unusedVariables false
set_option linter.unusedSimpArgs false
def names : List ByteArray := [(⟨#[97, 115, 104]⟩ : ByteArray), (⟨#[98, 101, 101, 99, 104]⟩ : ByteArray), (⟨#[98, 105, 114, 99, 104]⟩ : ByteArray), (⟨#[99, 104, 101, 114, 114, 121]⟩ : ByteArray), (⟨#[101, 98, 111, 110, 121]⟩ : ByteArray), (⟨#[104, 111, 108, 108, 121]⟩ : ByteArray), (⟨#[109, 97, 112, 108, 101]⟩ : ByteArray), (⟨#[111, 97, 107]⟩ : ByteArray), (⟨#[114, 111, 115, 101, 119, 111, 111, 100]⟩ : ByteArray), (⟨#[119, 97, 108, 110, 117, 116]⟩ : ByteArray)]
/-- The place of a name. -/
def findN (n : ByteArray) : Nat → Nat → Int
  | 0, _ => -1
  | m + 1, k => if names.getD k default = n then (k : Int) else findN n m (k + 1)
end Go.Proofs.YtihjdodmlddffaaDoor.Fw
namespace Go.Proofs.YtihjdodmlddffaaDoor.Fw
open Go.RowKit
set_option linter.unusedVariables false
set_option linter.unusedSimpArgs false
/-- Decimal digits, the last one first. -/
def revD (u : Nat) : List Int := if h : u = 0 then [] else (48 + ((u % 10 : Nat) : Int)) :: revD (u / 10)
termination_by u
decreasing_by omega
theorem revD_zero : revD 0 = [] := by unfold revD; simp
theorem revD_pos {u : Nat} (h : u ≠ 0) : revD u = (48 + ((u % 10 : Nat) : Int)) :: revD (u / 10) := by
  rw [revD]; simp [h]
theorem revD_len (u : Nat) : (revD u).length ≤ u := by
  induction u using Nat.strongRecOn with
  | ind u ih =>
    by_cases h : u = 0
    · subst h; simp [revD_zero]
    · rw [revD_pos h, List.length_cons]
      have := ih (u / 10) (by omega)
      omega
def u8 (d : Int) : UInt8 := UInt8.ofNat d.toNat
theorem bytesU_eq (xs : List Int) : bytesU xs = xs.map u8 := rfl
theorem dec_rev (u : Nat) (h : u ≠ 0) : Go.Lib.decDigits u = ((revD u).map u8).reverse := by
  induction u using Nat.strongRecOn with
  | ind u ih =>
    rw [Go.Lib.decDigits, revD_pos h]
    by_cases c : u < 10
    · have h0 : u / 10 = 0 := by omega
      have h1 : u % 10 = u := by omega
      rw [dif_pos c, h0, revD_zero, h1]
      have : (48 + (u : Int)).toNat = 48 + u := by omega
      simp only [List.map_cons, List.map_nil, List.reverse_cons, List.reverse_nil, List.nil_append, u8, this]
    · rw [dif_neg c, ih (u / 10) (by omega) (by omega)]
      simp only [List.map_cons, List.reverse_cons]
      congr 1
theorem dec_len (u : Nat) : (Go.Lib.decDigits u).length ≤ u + 1 := by
  by_cases h : u = 0
  · subst h; rw [Go.Lib.decDigits]; simp
  · rw [dec_rev u h]
    have := revD_len u
    simp only [List.length_reverse, List.length_map]
    omega
theorem itoa_len (n : Int) : (Go.Lib.itoa n).length ≤ n.natAbs + 2 := by
  unfold Go.Lib.itoa
  split
  · have := dec_len n.natAbs; simp only [List.length_cons]; omega
  · have := dec_len n.toNat; omega
end Go.Proofs.YtihjdodmlddffaaDoor.Fw
namespace Go.Proofs.YtihjdodmlddffaaDoor.Fw
open Go.RowKit
set_option linter.unusedVariables false
set_option linter.unusedSimpArgs false
theorem bapp (L M : List UInt8) : (⟨L.toArray⟩ : ByteArray) ++ ⟨M.toArray⟩ = ⟨(L ++ M).toArray⟩ := by
  apply ByteArray.ext
  simp
/-- The numbers' texts with a comma between. -/
def listL (l : List Int) : List UInt8 := Go.Lib.join (l.map Go.Lib.itoa) [44]
theorem listL_one (x : Int) : listL [x] = Go.Lib.itoa x := by simp [listL, Go.Lib.join, List.intercalate]
theorem join_snoc (xs : List (List UInt8)) (y sep : List UInt8) (h : xs ≠ []) : Go.Lib.join (xs ++ [y]) sep = Go.Lib.join xs sep ++ (sep ++ y) := by
  induction xs with
  | nil => exact absurd rfl h
  | cons x xs ih =>
    cases xs with
    | nil => simp [Go.Lib.join, List.intercalate, List.intersperse]
    | cons z zs =>
      have := ih (by simp)
      simp only [Go.Lib.join, List.intercalate, List.cons_append, List.intersperse, List.flatten_cons] at this ⊢
      rw [this]
      simp only [List.append_assoc]
theorem listL_snoc (l : List Int) (y : Int) (h : l ≠ []) : listL (l ++ [y]) = listL l ++ ([44] ++ Go.Lib.itoa y) := by
  unfold listL
  rw [List.map_append]
  exact join_snoc _ _ _ (by simpa using h)
def smallN (l : List Int) : Prop := ∀ i, i < l.length → -1000000000000 ≤ l.getD i default ∧ l.getD i default ≤ 1000000000000
theorem smallN.abs {l : List Int} (h : smallN l) {i : Nat} (hi : i < l.length) : (l.getD i default).natAbs ≤ 1000000000000 := by have := h i hi; omega
theorem take_snocI {l : List Int} {i : Nat} (hi : i < l.length) : l.take i ++ [l.getD i default] = l.take (i + 1) := by
  rw [List.take_succ_eq_append_getElem hi, List.getD_eq_getElem?_getD, List.getElem?_eq_getElem hi, Option.getD_some]
theorem listL_len {l : List Int} (h : smallN l) : ∀ i, i ≤ l.length → (listL (l.take i)).length ≤ i * 1000000000010 := by
  intro i
  induction i with
  | zero => intro _; simp [listL, Go.Lib.join, List.intercalate]
  | succ i ih =>
    intro hi
    have h1 := ih (by omega)
    have h2 := itoa_len (l.getD i default)
    have h3 := h.abs (i := i) (by omega)
    rw [← take_snocI (by omega)]
    by_cases c : l.take i = []
    · rw [c, List.nil_append, listL_one]; omega
    · rw [listL_snoc _ _ c]
      simp only [List.length_append, List.length_cons, List.length_nil]
      omega
theorem take_ne {l : List Int} {i : Nat} (h0 : 0 < i) (hi : i ≤ l.length) : l.take i ≠ [] := by
  intro h
  have := congrArg List.length h
  rw [List.length_take, List.length_nil] at this
  omega
end Go.Proofs.YtihjdodmlddffaaDoor.Fw
namespace Go.Proofs.YtihjdodmlddffaaDoor.Fw
open Go.RowKit
set_option linter.unusedVariables false
set_option linter.unusedSimpArgs false
/-- The first part gets something in front. -/
def preF (p : List UInt8) : List (List UInt8) → List (List UInt8)
  | [] => [p]
  | q :: qs => (p ++ q) :: qs
/-- The parts between the bytes c. -/
def spl (c : UInt8) : List UInt8 → List (List UInt8)
  | [] => [[]]
  | x :: xs => if x = c then [] :: spl c xs else preF [x] (spl c xs)
theorem spl_ne (c : UInt8) (l : List UInt8) : spl c l ≠ [] := by
  cases l with
  | nil => simp [spl]
  | cons x xs =>
    unfold spl
    split
    · simp
    · cases spl c xs <;> simp [preF]
theorem preF_nil {L : List (List UInt8)} (h : L ≠ []) : preF [] L = L := by
  cases L with
  | nil => exact absurd rfl h
  | cons q qs => simp [preF]
theorem preF_preF (p q : List UInt8) (L : List (List UInt8)) (h : L ≠ []) : preF p (preF q L) = preF (p ++ q) L := by
  cases L with
  | nil => exact absurd rfl h
  | cons r rs => simp [preF]
theorem splitK_spl (c : UInt8) (l : List UInt8) : Go.Lib.splitK [c] 0 (l.count c) l = spl c l := by
  induction l with
  | nil => rfl
  | cons x xs ih =>
    by_cases h : x = c
    · subst h
      have hidx : Go.Lib.index (x :: xs) [x] = 0 := by simp [Go.Lib.index]
      rw [List.count_cons_self, Go.Lib.splitK, hidx]
      simp only [spl, if_true]
      rw [← ih]
      simp
    · have hne : ¬ [c].isPrefixOf (x :: xs) = true := by simp [Ne.symm h]
      rw [List.count_cons_of_ne h]
      simp only [spl, if_neg h]
      rw [← ih]
      cases hk : xs.count c with
      | zero => simp [Go.Lib.splitK, preF]
      | succ k =>
        have hi : Go.Lib.index (x :: xs) [c] = if (Go.Lib.index xs [c] == -1) = true then -1 else Go.Lib.index xs [c] + 1 := by
          rw [Go.Lib.index, if_neg hne]
        by_cases h1 : Go.Lib.index xs [c] = -1
        · simp [Go.Lib.splitK, hi, h1, preF]
        · have h2 : 0 ≤ Go.Lib.index xs [c] := by
            have := Go.Lib.index_ge xs [c]
            omega
          have h3 : (Go.Lib.index xs [c] + 1).toNat = (Go.Lib.index xs [c]).toNat + 1 := by omega
          have h4 : ¬ Go.Lib.index xs [c] + 1 = -1 := by omega
          simp [Go.Lib.splitK, hi, h1, h3, h4, preF]
end Go.Proofs.YtihjdodmlddffaaDoor.Fw
namespace Go.Proofs.YtihjdodmlddffaaDoor.Fw
open Go.RowKit
set_option linter.unusedVariables false
set_option linter.unusedSimpArgs false
theorem extr_data (s : ByteArray) (a b : Nat) : (s.extract a b).data.toList = (s.data.toList.drop a).take (b - a) := Go.Lib.extract_data s a b
theorem size_data (s : ByteArray) : s.size = s.data.toList.length := by
  show s.data.size = _
  exact Array.length_toList.symm
theorem toNat_inj {a b : UInt8} : ((a.toNat : Int) = (b.toNat : Int)) ↔ a = b := by
  constructor
  · intro h
    exact UInt8.toNat_inj.1 (by omega)
  · rintro rfl; rfl
theorem p_Split (s : ByteArray) (c : UInt8) (hs : s.size ≤ 1000000000) : ∃ L : List ByteArray, G.strings_Split s ⟨#[c]⟩ = some L ∧ L.map (·.data.toList) = spl c s.data.toList := by
  refine ⟨extSplit s ⟨#[c]⟩, ?_, ?_⟩
  · unfold G.strings_Split
    have h1 : (⟨#[c]⟩ : ByteArray).size = 1 := rfl
    rw [if_pos ⟨by omega, by omega⟩]
  · unfold extSplit
    rw [Go.Lib.splitB_data]
    show Go.Lib.splitK [c] 0 (Go.Lib.countB s ⟨#[c]⟩) s.data.toList = _
    rw [← splitK_spl]
    congr 1
    exact Go.Lib.count_one c _
theorem eq_of_data {L M : List ByteArray} (h : L.map (·.data.toList) = M.map (·.data.toList)) : L = M := by
  have inj : ∀ a b : ByteArray, a.data.toList = b.data.toList → a = b := fun a b h => ByteArray.ext (Array.toList_inj.1 h)
  induction L generalizing M with
  | nil => cases M with
    | nil => rfl
    | cons m ms => simp at h
  | cons l ls ih => cases M with
    | nil => simp at h
    | cons m ms =>
      simp only [List.map_cons, List.cons.injEq] at h
      rw [inj _ _ h.1, ih h.2]
end Go.Proofs.YtihjdodmlddffaaDoor.Fw
namespace Go.Proofs.YtihjdodmlddffaaDoor.Fw
open Go.RowKit
set_option linter.unusedVariables false
set_option linter.unusedSimpArgs false
def isDg (b : UInt8) : Bool := decide (48 ≤ b.toNat) && decide (b.toNat ≤ 57)
def valF (n : Nat) (l : List UInt8) : Nat := l.foldl (fun n b => 10 * n + (b.toNat - 48)) n
def valD (l : List UInt8) : Nat := valF 0 l
theorem iter_digits {step : Int × Int → Option ((Int × Int) ⊕ (Int ⊕ (Int × Bool)))} (l : List UInt8) (off : Nat) (hlen : l.length ≤ 18)
    (hs : ∀ (i n : Nat) (hi : i < l.length), n < 100000000000000000 → step ((n : Int), ((off + i : Nat) : Int)) = if isDg l[i] then some (.inl (((10 * n + (l[i].toNat - 48) : Nat) : Int), ((off + (i + 1) : Nat) : Int))) else some (.inr (.inr (0, false))))
    (he : ∀ n : Int, step (n, ((off + l.length : Nat) : Int)) = some (.inr (.inl n))) :
    iter step ((0 : Int), (off : Int)) = some (if l.all isDg then .inl ((valD l : Nat) : Int) else .inr (0, false)) := by
  have key : ∀ (m k n : Nat), k + m = l.length → n < 10 ^ k → iter step ((n : Int), ((off + k : Nat) : Int)) = some (if (l.drop k).all isDg then .inl ((valF n (l.drop k) : Nat) : Int) else .inr (0, false)) := by
    intro m
    induction m with
    | zero =>
      intro k n hk hn
      have : k = l.length := by omega
      subst this
      rw [iter_inr (r := .inl (n : Int)) (he _), List.drop_length]
      simp [valF]
    | succ m ih =>
      intro k n hk hn
      have hi : k < l.length := by omega
      have hp : 10 ^ k ≤ 10 ^ 17 := Nat.pow_le_pow_right (by omega) (by omega)
      have hb : n < 100000000000000000 := Nat.lt_of_lt_of_le hn (by simpa using hp)
      have h := hs k n hi hb
      have hd : l.drop k = l[k] :: l.drop (k + 1) := (List.getElem_cons_drop ..).symm
      rw [hd, List.all_cons]
      by_cases c : isDg l[k] = true
      · rw [if_pos c] at h
        rw [iter_inl h, ih (k + 1) _ (by omega) ?_, c, Bool.true_and]
        · rfl
        · have : l[k].toNat ≤ 57 := by
            unfold isDg at c
            simp only [Bool.and_eq_true, decide_eq_true_eq] at c
            exact c.2
          rw [Nat.pow_succ]; omega
      · rw [if_neg c] at h
        rw [iter_inr (r := .inr ((0 : Int), false)) h]
        simp only [Bool.not_eq_true] at c
        simp [c]
  have := key l.length 0 0 (by omega) (by simp)
  simpa [valD] using this
/-- What reading a number comes to. -/
def numD (neg : Bool) (D : List UInt8) : Int × Bool :=
  if D.length = 0 ∨ 18 < D.length ∨ (D.head? = some 48 ∧ 1 < (if neg then 1 else 0) + D.length) ∨ D.all isDg = false then (0, false) else ((if neg then -((valD D : Nat) : Int) else ((valD D : Nat) : Int)), true)
def isNeg (s : ByteArray) : Bool := decide (s.data.toList.head? = some 45)
def numR (s : ByteArray) : Int × Bool := numD (isNeg s) (s.data.toList.drop (if isNeg s then 1 else 0))
theorem byteAt_get (s : ByteArray) (i : Nat) (h : i < s.data.toList.length) : byteAt s i = ((s.data.toList[i]).toNat : Int) := by
  unfold byteAt
  rw [List.getD_eq_getElem?_getD, List.getElem?_eq_getElem h, Option.getD_some]
theorem isNeg_iff (s : ByteArray) (h : 0 < s.size) : isNeg s = decide (byteAt s 0 = 45) := by
  rw [size_data] at h
  unfold isNeg
  rw [byteAt_get s 0 h, List.head?_eq_getElem?, List.getElem?_eq_getElem h]
  congr 1
  rw [eq_iff_iff]
  constructor
  · intro h
    rw [Option.some.inj h]; rfl
  · intro h
    exact congrArg some (toNat_inj.1 h)
theorem isNeg_len {s : ByteArray} (h : isNeg s = true) : 1 ≤ s.size := by
  rw [size_data]
  unfold isNeg at h
  cases hl : s.data.toList with
  | nil => rw [hl] at h; simp at h
  | cons a b => simp
theorem isDg_lo {b : UInt8} (h : isDg b = true) : 48 ≤ b.toNat ∧ b.toNat ≤ 57 := by
  unfold isDg at h
  simpa using h
theorem wrapU8 {n : Int} (h0 : 0 ≤ n) (h1 : n < 256) : IntKind.wrap .u8 n = n := by
  show n % 256 = n
  omega
theorem valF_lt : ∀ (l : List UInt8) (n k : Nat), l.all isDg = true → n < 10 ^ k → valF n l < 10 ^ (k + l.length) := by
  intro l
  induction l with
  | nil => intro n k _ h; simpa [valF] using h
  | cons b l ih =>
    intro n k ha h
    rw [List.all_cons, Bool.and_eq_true] at ha
    have h1 := isDg_lo ha.1
    have := ih (10 * n + (b.toNat - 48)) (k + 1) ha.2 (by rw [Nat.pow_succ]; omega)
    rw [List.length_cons, show k + (l.length + 1) = k + 1 + l.length by omega]
    exact this
theorem valD_le {l : List UInt8} (h : l.all isDg = true) (hl : l.length ≤ 18) : ((valD l : Nat) : Int) ≤ 1000000000000000000 := by
  have h1 := valF_lt l 0 0 h (by simp)
  have h2 : 10 ^ (0 + l.length) ≤ 10 ^ 18 := Nat.pow_le_pow_right (by omega) (by omega)
  have h3 : valD l < 1000000000000000000 := Nat.lt_of_lt_of_le h1 (by simpa using h2)
  omega
theorem dg_in (b : UInt8) : inR ((b.toNat : Nat) : Int) 48 57 = isDg b := by
  unfold inR isDg
  congr 1
  · rw [decide_eq_decide]; omega
  · rw [decide_eq_decide]; omega
theorem dg_add (n : Nat) (b : UInt8) (hn : n < 100000000000000000) (hb : isDg b = true) : IntKind.wrap .i64 ((IntKind.wrap .i64 ((10 : Int) * (n : Int))) + (IntKind.wrap .i64 (IntKind.wrap .u8 (((b.toNat : Nat) : Int) - (48 : Int))))) = ((10 * n + (b.toNat - 48) : Nat) : Int) := by
  have h := isDg_lo hb
  have w1 : IntKind.wrap .u8 (((b.toNat : Nat) : Int) - (48 : Int)) = ((b.toNat : Nat) : Int) - 48 := wrapU8 (by omega) (by omega)
  have w2 : IntKind.wrap .i64 (((b.toNat : Nat) : Int) - (48 : Int)) = ((b.toNat : Nat) : Int) - 48 := wrap64 (by omega) (by omega)
  have w3 : IntKind.wrap .i64 ((10 : Int) * (n : Int)) = 10 * (n : Int) := wrap64 (by omega) (by omega)
  rw [w1, w2, w3, wrap64 (by omega) (by omega)]
  omega
/-- Decimal digits and values. -/
theorem valF_append (n : Nat) (l m : List UInt8) : valF n (l ++ m) = valF (valF n l) m := by unfold valF; rw [List.foldl_append]
theorem valF_one (n : Nat) (b : UInt8) : valF n [b] = 10 * n + (b.toNat - 48) := rfl
theorem dec_step (u d : Nat) (hu : u ≠ 0) (hd : d < 10) : Go.Lib.decDigits (10 * u + d) = Go.Lib.decDigits u ++ [UInt8.ofNat (48 + d)] := by
  rw [Go.Lib.decDigits, dif_neg (by omega)]
  have h1 : (10 * u + d) / 10 = u := by omega
  have h2 : (10 * u + d) % 10 = d := by omega
  rw [h1, h2]
theorem ofNat_dg {b : UInt8} (h : isDg b = true) : UInt8.ofNat (48 + (b.toNat - 48)) = b := by
  have := isDg_lo h
  rw [show 48 + (b.toNat - 48) = b.toNat by omega]
  exact UInt8.ofNat_toNat
theorem valF_ge (n : Nat) (l : List UInt8) : n ≤ valF n l := by
  induction l generalizing n with
  | nil => exact Nat.le_refl _
  | cons b l ih =>
    have := ih (10 * n + (b.toNat - 48))
    show n ≤ valF (10 * n + (b.toNat - 48)) l
    omega
theorem dec_valF (l : List UInt8) : ∀ n : Nat, n ≠ 0 → l.all isDg = true → Go.Lib.decDigits (valF n l) = Go.Lib.decDigits n ++ l := by
  induction l with
  | nil => intro n _ _; simp [valF]
  | cons b l ih =>
    intro n hn ha
    rw [List.all_cons, Bool.and_eq_true] at ha
    have hb := isDg_lo ha.1
    show Go.Lib.decDigits (valF (10 * n + (b.toNat - 48)) l) = _
    rw [ih _ (by omega) ha.2, dec_step n _ hn (by omega), ofNat_dg ha.1, List.append_assoc]
    rfl
theorem dec_valD (b : UInt8) (l : List UInt8) (ha : (b :: l).all isDg = true) (hb : b ≠ 48) : valD (b :: l) ≠ 0 ∧ Go.Lib.decDigits (valD (b :: l)) = b :: l := by
  rw [List.all_cons, Bool.and_eq_true] at ha
  have h1 := isDg_lo ha.1
  have h2 : b.toNat ≠ 48 := fun h => hb (UInt8.toNat_inj.1 h)
  have hv : valD (b :: l) = valF (b.toNat - 48) l := by
    show valF (10 * 0 + (b.toNat - 48)) l = _
    rw [Nat.mul_zero, Nat.zero_add]
  have hge := valF_ge (b.toNat - 48) l
  refine ⟨by omega, ?_⟩
  rw [hv, dec_valF l _ (by omega) ha.2, Go.Lib.decDigits, dif_pos (by omega), ofNat_dg ha.1]
  rfl
theorem dec_head (u : Nat) (h : u ≠ 0) : (Go.Lib.decDigits u).head? ≠ some 48 := by
  induction u using Nat.strongRecOn with
  | ind u ih =>
    rw [Go.Lib.decDigits]
    by_cases c : u < 10
    · rw [dif_pos c]
      intro e
      have e : UInt8.ofNat (48 + u) = 48 := Option.some.inj e
      have := congrArg UInt8.toNat e
      rw [UInt8.toNat_ofNat_of_lt' (by show 48 + u < 256; omega)] at this
      have : 48 + u = 48 := this
      omega
    · rw [dif_neg c]
      have := ih (u / 10) (by omega) (by omega)
      cases hd : Go.Lib.decDigits (u / 10) with
      | nil =>
        have hl := Go.Lib.decDigits_length (u / 10)
        rw [Go.Lib.decDigits] at hd
        split at hd <;> simp at hd
      | cons x xs =>
        rw [hd] at this
        simpa using this
theorem dec_zero : Go.Lib.decDigits 0 = [48] := by rw [Go.Lib.decDigits, dif_pos (by omega)]; rfl
/-- A text of digits is what its number is told as, where it does not begin with a nought. -/
theorem itoa_num (neg : Bool) (b : UInt8) (l : List UInt8) (ha : (b :: l).all isDg = true) :
    Go.Lib.itoa (if neg then -((valD (b :: l) : Nat) : Int) else ((valD (b :: l) : Nat) : Int)) = (if neg then [45] else []) ++ (b :: l) ↔ ¬ (b = 48 ∧ 1 < (if neg then 1 else 0) + (b :: l).length) := by
  by_cases hb : b = 48
  · subst hb
    have hv : valD (48 :: l) = valF 0 l := rfl
    cases neg with
    | false =>
      simp only [Bool.false_eq_true, if_false, List.nil_append, Go.Lib.itoa_nonneg, List.length_cons, true_and]
      by_cases hl : l = []
      · subst hl
        have : valD [48] = 0 := rfl
        rw [this, dec_zero]
        simp
      · have h1 : 0 < l.length := List.length_pos_iff.2 hl
        refine ⟨fun e => ?_, fun e => absurd (by omega) e⟩
        by_cases h0 : valD (48 :: l) = 0
        · rw [h0, dec_zero] at e
          have := congrArg List.length e
          simp only [List.length_cons, List.length_nil] at this
          omega
        · exact absurd (by rw [e]; rfl) (dec_head _ h0)
    | true =>
      simp only [if_true, List.cons_append, List.nil_append, List.length_cons, true_and]
      refine ⟨fun e => ?_, fun e => absurd (by omega) e⟩
      by_cases h0 : valD (48 :: l) = 0
      · rw [h0] at e
        have : Go.Lib.itoa (-((0 : Nat) : Int)) = [48] := by
          show Go.Lib.itoa (0 : Int) = _
          rw [show (0 : Int) = ((0 : Nat) : Int) from rfl, Go.Lib.itoa_nonneg, dec_zero]
        rw [this] at e
        simp at e
      · rw [Go.Lib.itoa_neg _ (by omega)] at e
        have e : Go.Lib.decDigits (valD (48 :: l)) = 48 :: l := (List.cons.inj e).2
        exact absurd (by rw [e]; rfl) (dec_head _ h0)
  · obtain ⟨h1, h2⟩ := dec_valD b l ha hb
    refine ⟨fun _ h => hb h.1, fun _ => ?_⟩
    cases neg with
    | false =>
      simp only [Bool.false_eq_true, if_false, List.nil_append, Go.Lib.itoa_nonneg]
      exact h2
    | true =>
      simp only [if_true, List.cons_append, List.nil_append]
      rw [Go.Lib.itoa_neg _ (by omega), h2]
end Go.Proofs.YtihjdodmlddffaaDoor.Fw
namespace Go.Proofs.YtihjdodmlddffaaDoor.Fw
open Go.RowKit
set_option linter.unusedVariables false
set_option linter.unusedSimpArgs false
theorem p_HasPrefix (s : ByteArray) (hs : s.size ≤ 1000000000) : G.strings_HasPrefix s ⟨#[45]⟩ = some (isNeg s) := by
  have hsz := size_data s
  unfold G.strings_HasPrefix G.internal_stringslite_HasPrefix
  have h1 : (⟨#[45]⟩ : ByteArray).size = 1 := rfl
  rw [h1]
  by_cases c : 1 ≤ s.size
  · rw [decide_eq_true (by omega), cond_true, if_pos ⟨by omega, by omega⟩]
    simp only [Option.bind_some]
    congr 1
    unfold isNeg
    rw [decide_eq_decide]
    have hd : (s.extract 0 1).data.toList = s.data.toList.take 1 := by rw [extr_data]; rfl
    constructor
    · intro e
      rw [e] at hd
      cases hl : s.data.toList with
      | nil =>
        rw [hl] at hsz
        have : s.size = 0 := hsz
        omega
      | cons a b => rw [hl] at hd; simp at hd; simp [hd]
    · intro e
      cases hl : s.data.toList with
      | nil => rw [hl] at e; simp at e
      | cons a b =>
        rw [hl] at hd e
        simp at e
        subst e
        apply ByteArray.ext
        apply Array.toList_inj.1
        rw [hd]
        rfl
  · rw [decide_eq_false (by omega), cond_false]
    simp only [Option.bind_some]
    cases h : isNeg s
    · rfl
    · have := isNeg_len h; omega
theorem p_ReadDecimal (s : ByteArray) (hs : s.size ≤ 1000000000) : G.i_ReadDecimal s = some (numR s) := by
  have hsz := size_data s
  unfold G.i_ReadDecimal
  rw [p_HasPrefix s hs]
  simp only [Option.bind_some]
  have hq : ∃ q : ByteArray, (bif isNeg s then (if 0 ≤ (1 : Int) ∧ (1 : Int) ≤ ((s.size : Nat) : Int) then (some (s.extract 1 s.size)) else none) else (some s)) = some q ∧ q.data.toList = s.data.toList.drop (if isNeg s then 1 else 0) ∧ q.size = s.size - (if isNeg s then 1 else 0) ∧ (if isNeg s then 1 else 0) ≤ s.size := by
    cases h : isNeg s
    · exact ⟨s, rfl, rfl, rfl, Nat.zero_le _⟩
    · have := isNeg_len h
      refine ⟨s.extract 1 s.size, ?_, ?_, ?_, this⟩
      · rw [cond_true, if_pos ⟨by omega, by omega⟩]
      · rw [extr_data, if_pos rfl, List.take_of_length_le (by rw [List.length_drop]; omega)]
      · rw [size_data, extr_data, List.length_take, List.length_drop, if_pos rfl]; omega
  obtain ⟨q, e1, e2, e3, e4⟩ := hq
  rw [e1]
  simp only [Option.bind_some]
  unfold numR numD
  have hD : ((s.data.toList.drop (if isNeg s then 1 else 0))).length = q.size := by rw [← e2, size_data]
  rw [hD, ← e2]
  by_cases c1 : q.size = 0
  · rw [decide_eq_true (by omega), cond_true]
    simp only [Option.bind_some, cond_true]
    rw [if_pos (.inl c1)]
  · rw [decide_eq_false (by omega), cond_false]
    simp only [Option.bind_some]
    by_cases c2 : 18 < q.size
    · rw [decide_eq_true (by omega), cond_true, if_pos (.inr (.inl c2))]
    · rw [decide_eq_false (by omega), cond_false]
      have hql := size_data q
      have hit := iter_digits (step := G.i_ReadDecimal.s0 q) q.data.toList 0 (by omega) ?_ ?_
      · have hit : iter (G.i_ReadDecimal.s0 q) ((0 : Int), (0 : Int)) = _ := hit
        rw [hit]
        cases c4 : q.data.toList.all isDg
        · rw [if_neg (show ¬ (false = true) by decide), if_pos (Or.inr (Or.inr (Or.inr rfl)))]
          rfl
        · have hb : (valD q.data.toList : Int) ≤ 1000000000000000000 := valD_le c4 (by omega)
          rw [if_pos (rfl : true = true)]
          simp only [jn, Option.bind_some, Sum.elim_inl]
          have hn : (bif (decide (((q.size : Nat) : Int) < ((s.size : Nat) : Int))) then (some (IntKind.wrap .i64 (0 - ((valD q.data.toList : Nat) : Int)))) else (some ((valD q.data.toList : Nat) : Int))) = some (if isNeg s then -((valD q.data.toList : Nat) : Int) else ((valD q.data.toList : Nat) : Int)) := by
            cases h : isNeg s
            · rw [h] at e3
              rw [decide_eq_false (by simp at e3; omega)]
              rfl
            · rw [h] at e3 e4
              rw [decide_eq_true (by simp at e3 e4; omega), cond_true, wrap64 (by omega) (by omega)]
              simp
          rw [hn]
          simp only [Option.bind_some]
          obtain ⟨b, l, hbl⟩ : ∃ b l, q.data.toList = b :: l := by
            cases h : q.data.toList with
            | nil =>
              rw [h] at hql
              have : q.size = 0 := hql
              omega
            | cons b l => exact ⟨b, l, rfl⟩
          have key := itoa_num (isNeg s) b l (by rw [← hbl]; exact c4)
          have hsd : s.data.toList = (if isNeg s then [45] else []) ++ (b :: l) := by
            rw [← hbl, e2]
            cases h : isNeg s
            · rfl
            · unfold isNeg at h
              have h := of_decide_eq_true h
              cases hl : s.data.toList with
              | nil => rw [hl] at h; simp at h
              | cons x xs => rw [hl] at h; simp at h; simp [h]
          have hlen : (if isNeg s then 1 else 0) + (b :: l).length = (if isNeg s then 1 else 0) + q.size := by rw [← hbl, hql]
          rw [hlen] at key
          have hdec : G.i_Decimal (if isNeg s then -((valD q.data.toList : Nat) : Int) else ((valD q.data.toList : Nat) : Int)) = some (⟨(Go.Lib.itoa (if isNeg s then -((valD q.data.toList : Nat) : Int) else ((valD q.data.toList : Nat) : Int))).toArray⟩ : ByteArray) := by
            unfold G.i_Decimal G.strconv_FormatInt
            rw [if_pos]
            · rfl
            · refine ⟨rfl, ?_⟩
              have : ∀ (x : Int) (b : Bool), 0 ≤ x → x ≤ 1000000000000000000 → -9223372036854775808 ≤ (if b = true then -x else x) ∧ (if b = true then -x else x) ≤ 9223372036854775807 := by
                intro x b h0 h1
                cases b <;> simp <;> omega
              exact this _ _ (by omega) hb
          rw [hdec]
          simp only [Option.bind_some]
          have hbeq : ((⟨(Go.Lib.itoa (if isNeg s then -((valD q.data.toList : Nat) : Int) else ((valD q.data.toList : Nat) : Int))).toArray⟩ : ByteArray) = s) ↔ Go.Lib.itoa (if isNeg s then -((valD (b :: l) : Nat) : Int) else ((valD (b :: l) : Nat) : Int)) = (if isNeg s then [45] else []) ++ (b :: l) := by
            rw [← hsd, ← hbl]
            constructor
            · intro e
              simpa using congrArg (fun z => z.data.toList) e
            · intro e
              apply ByteArray.ext
              apply Array.toList_inj.1
              simpa using e
          by_cases ce : b = 48 ∧ 1 < (if isNeg s then 1 else 0) + q.size
          · rw [decide_eq_false (fun x => (key.1 (hbeq.1 x)) ce), cond_false, if_pos (.inr (.inr (.inl ⟨by rw [hbl, ce.1]; rfl, ce.2⟩)))]
          · have hno : ¬ (q.size = 0 ∨ 18 < q.size ∨ (q.data.toList.head? = some 48 ∧ 1 < (if isNeg s = true then 1 else 0) + q.size) ∨ true = false) := by
              rintro (a | a | a | a)
              · omega
              · omega
              · rw [hbl] at a
                exact ce ⟨Option.some.inj a.1, a.2⟩
              · exact absurd a (by decide)
            rw [decide_eq_true (hbeq.2 (key.2 ce)), cond_true, if_neg hno]
      · intro i n hi hn
        simp only [G.i_ReadDecimal.s0, Int.toNat_natCast, Nat.zero_add]
        have w : IntKind.wrap .i64 ((i : Int) + 1) = ((i + 1 : Nat) : Int) := by rw [wrap64 (by omega) (by omega)]; omega
        rw [decide_eq_true (by omega), cond_true, if_pos ⟨by omega, by omega⟩, byteAt_get q i hi, w]
        cases c : isDg (q.data.toList[i])
        · rw [if_neg (show ¬ (false = true) by decide)]
          by_cases c5 : ((q.data.toList[i]).toNat : Int) < 48
          · rw [decide_eq_true c5]
            rfl
          · have c6 : (57 : Int) < ((q.data.toList[i]).toNat : Int) := by
              rw [← dg_in] at c
              unfold inR at c
              simp only [Bool.and_eq_false_iff, decide_eq_false_iff_not] at c
              omega
            rw [decide_eq_false c5, cond_false, if_pos ⟨by omega, by omega⟩, decide_eq_true c6]
            rfl
        · have hc := isDg_lo c
          have da := dg_add n _ hn c
          rw [Int.mul_comm 10] at da
          rw [if_pos (rfl : true = true), decide_eq_false (by omega), cond_false, if_pos ⟨by omega, by omega⟩, decide_eq_false (by omega)]
          simp only [Option.bind_some, cond_false]
          rw [if_pos ⟨by omega, by omega⟩, da]
      · intro n
        simp only [G.i_ReadDecimal.s0, Nat.zero_add]
        rw [decide_eq_false (by omega), cond_false]
end Go.Proofs.YtihjdodmlddffaaDoor.Fw
namespace Go.Proofs.YtihjdodmlddffaaDoor.Fw
open Go.RowKit
set_option linter.unusedVariables false
set_option linter.unusedSimpArgs false
theorem isDg_of {d : Nat} (h : d < 10) : isDg (UInt8.ofNat (48 + d)) = true ∧ (UInt8.ofNat (48 + d)).toNat = 48 + d := by
  have e : (UInt8.ofNat (48 + d)).toNat = 48 + d := UInt8.toNat_ofNat_of_lt' (by show 48 + d < 256; omega)
  exact ⟨by unfold isDg; rw [e]; simp; omega, e⟩
theorem dec_spec (u : Nat) : (Go.Lib.decDigits u).all isDg = true ∧ valD (Go.Lib.decDigits u) = u ∧ Go.Lib.decDigits u ≠ [] := by
  induction u using Nat.strongRecOn with
  | ind u ih =>
    rw [Go.Lib.decDigits]
    by_cases c : u < 10
    · rw [dif_pos c]
      obtain ⟨h1, h2⟩ := isDg_of c
      refine ⟨by rw [List.all_cons, h1]; rfl, ?_, by simp⟩
      show 10 * 0 + ((UInt8.ofNat (48 + u)).toNat - 48) = u
      rw [h2]; omega
    · rw [dif_neg c]
      obtain ⟨h1, h2⟩ := isDg_of (d := u % 10) (by omega)
      obtain ⟨g1, g2, g3⟩ := ih (u / 10) (by omega)
      refine ⟨by rw [List.all_append, g1, List.all_cons, h1]; rfl, ?_, by simp⟩
      unfold valD at g2 ⊢
      rw [valF_append, g2, valF_one, h2]
      omega
theorem dec_short (k : Nat) : ∀ u : Nat, u < 10 ^ (k + 1) → (Go.Lib.decDigits u).length ≤ k + 1 := by
  induction k with
  | zero =>
    intro u hu
    rw [Go.Lib.decDigits, dif_pos (by omega)]
    simp
  | succ k ih =>
    intro u hu
    rw [Go.Lib.decDigits]
    by_cases c : u < 10
    · rw [dif_pos c]; simp
    · rw [dif_neg c, List.length_append]
      have := ih (u / 10) (by rw [Nat.pow_succ] at hu; omega)
      simp only [List.length_cons, List.length_nil]
      omega
theorem dg_ne {b : UInt8} (h : isDg b = true) : b ≠ 45 ∧ b ≠ 44 ∧ b ≠ 47 := by
  have := isDg_lo h
  refine ⟨?_, ?_, ?_⟩ <;> (rintro rfl; revert this; decide)
theorem dec_free (u : Nat) {c : UInt8} (hc : c = 44 ∨ c = 47 ∨ c = 45) : c ∉ Go.Lib.decDigits u := fun h => by
  have := dg_ne (List.all_eq_true.1 (dec_spec u).1 c h)
  rcases hc with rfl | rfl | rfl
  · exact this.2.1 rfl
  · exact this.2.2 rfl
  · exact this.1 rfl
theorem itoa_cases (n : Int) : (∃ u : Nat, n = (u : Int) ∧ Go.Lib.itoa n = Go.Lib.decDigits u) ∨ ∃ u : Nat, 1 ≤ u ∧ n = -(u : Int) ∧ Go.Lib.itoa n = 45 :: Go.Lib.decDigits u := by
  by_cases h : 0 ≤ n
  · exact .inl ⟨n.toNat, by omega, by rw [show n = ((n.toNat : Nat) : Int) by omega, Go.Lib.itoa_nonneg]; rfl⟩
  · have h1 := Go.Lib.itoa_neg (-n).toNat (by omega)
    have h2 : -(((-n).toNat : Nat) : Int) = n := by omega
    rw [h2] at h1
    exact .inr ⟨(-n).toNat, by omega, by omega, h1⟩
theorem itoa_free (n : Int) {c : UInt8} (hc : c = 44 ∨ c = 47) : c ∉ Go.Lib.itoa n := fun h => by
  rcases itoa_cases n with ⟨u, _, e⟩ | ⟨u, _, _, e⟩
  · rw [e] at h
    exact dec_free u (by rcases hc with h | h <;> simp [h]) h
  · rw [e] at h
    rcases List.mem_cons.1 h with h | h
    · rcases hc with rfl | rfl <;> exact absurd h (by decide)
    · exact dec_free u (by rcases hc with h | h <;> simp [h]) h
theorem itoa_short (n : Int) (h : n.natAbs < 1000000000000000000) : (Go.Lib.itoa n).length ≤ 19 := by
  rcases itoa_cases n with ⟨u, rfl, e⟩ | ⟨u, _, rfl, e⟩
  · have := dec_short 17 u (by omega)
    rw [e]; omega
  · have := dec_short 17 u (by omega)
    rw [e, List.length_cons]; omega
/-- A number is read back. -/
theorem numR_itoa (n : Int) (h : n.natAbs < 1000000000000000000) : numR ⟨(Go.Lib.itoa n).toArray⟩ = (n, true) := by
  have key : ∀ (neg : Bool) (u : Nat), u < 1000000000000000000 → (neg = true → u ≠ 0) → numD neg (Go.Lib.decDigits u) = ((if neg then -(u : Int) else (u : Int)), true) := by
    intro neg u hu hn
    obtain ⟨g1, g2, g3⟩ := dec_spec u
    have hl := dec_short 17 u (by omega)
    have h0 : 0 < (Go.Lib.decDigits u).length := List.length_pos_iff.2 g3
    unfold numD
    rw [if_neg, g2]
    rintro (e | e | ⟨e1, e2⟩ | e)
    · omega
    · omega
    · by_cases hu0 : u = 0
      · subst hu0
        cases neg
        · rw [dec_zero] at e2
          simp at e2
        · exact absurd rfl (hn rfl)
      · exact dec_head u hu0 e1
    · rw [g1] at e; cases e
  unfold numR isNeg
  simp only []
  rcases itoa_cases n with ⟨u, rfl, e⟩ | ⟨u, hu, rfl, e⟩
  · rw [e]
    have hh : decide ((Go.Lib.decDigits u).head? = some 45) = false := by
      rw [decide_eq_false_iff_not]
      intro hd
      exact dec_free u (.inr (.inr rfl)) (List.mem_of_mem_head? (by rw [hd]; rfl))
    simp only [List.toList_toArray, hh, Bool.false_eq_true, if_false, List.drop_zero]
    rw [key false u (by omega) (by simp)]
    simp
  · rw [e]
    simp only [List.toList_toArray, List.head?_cons, decide_true, if_true, List.drop_succ_cons, List.drop_zero]
    rw [key true u (by omega) (fun _ => by omega)]
    simp
theorem spl_free (c : UInt8) (x : List UInt8) (h : c ∉ x) : spl c x = [x] := by
  induction x with
  | nil => rfl
  | cons a x ih =>
    have h1 : a ≠ c := fun e => h (by rw [e]; exact List.mem_cons_self ..)
    rw [spl, if_neg h1, ih fun h2 => h (List.mem_cons_of_mem _ h2)]
    rfl
theorem spl_app (c : UInt8) (x r : List UInt8) (h : c ∉ x) : spl c (x ++ c :: r) = x :: spl c r := by
  induction x with
  | nil => rw [List.nil_append, spl, if_pos rfl]
  | cons a x ih =>
    have h1 : a ≠ c := fun e => h (by rw [e]; exact List.mem_cons_self ..)
    rw [List.cons_append, spl, if_neg h1, ih fun h2 => h (List.mem_cons_of_mem _ h2)]
    rfl
theorem join_two (x y : List UInt8) (l : List (List UInt8)) (s : List UInt8) : Go.Lib.join (x :: y :: l) s = x ++ (s ++ Go.Lib.join (y :: l) s) := by
  simp [Go.Lib.join, List.intercalate]
theorem join_one (x : List UInt8) (s : List UInt8) : Go.Lib.join [x] s = x := by simp [Go.Lib.join, List.intercalate]
theorem spl_join (c : UInt8) : ∀ L : List (List UInt8), L ≠ [] → (∀ x ∈ L, c ∉ x) → spl c (Go.Lib.join L [c]) = L
  | [], h, _ => absurd rfl h
  | [x], _, h => by rw [join_one, spl_free c x (h x (List.mem_cons_self ..))]
  | x :: y :: L, _, h => by
    rw [join_two, List.singleton_append, spl_app c x _ (h x (List.mem_cons_self ..)), spl_join c (y :: L) (by simp) fun z hz => h z (List.mem_cons_of_mem _ hz)]
theorem join_short (c : UInt8) (k : Nat) : ∀ L : List (List UInt8), (∀ x ∈ L, x.length ≤ k) → (Go.Lib.join L [c]).length ≤ L.length * (k + 1)
  | [], _ => by simp [Go.Lib.join, List.intercalate]
  | [x], h => by
    have := h x (List.mem_cons_self ..)
    rw [join_one]; simp; omega
  | x :: y :: L, h => by
    have h1 := h x (List.mem_cons_self ..)
    have h2 := join_short c k (y :: L) fun z hz => h z (List.mem_cons_of_mem _ hz)
    rw [join_two, List.length_append, List.length_append, List.length_cons (a := x), Nat.add_mul]
    simp only [List.length_cons, List.length_nil] at h2 ⊢
    omega
end Go.Proofs.YtihjdodmlddffaaDoor.Fw
namespace Go.Proofs.YtihjdodmlddffaaDoor.Fw
open Go.RowKit
set_option linter.unusedVariables false
set_option linter.unusedSimpArgs false
theorem b_Decimal (n : Int) (h0 : -9223372036854775808 ≤ n) (h1 : n ≤ 9223372036854775807) : G.i_Decimal n = some ⟨(Go.Lib.itoa n).toArray⟩ := by
  unfold G.i_Decimal G.strconv_FormatInt
  rw [if_pos ⟨rfl, h0, h1⟩]; rfl
theorem b_size (n : Int) (h : n.natAbs < 1000000000000000000) : (⟨(Go.Lib.itoa n).toArray⟩ : ByteArray).size ≤ 19 := by
  have := itoa_short n h
  show (Go.Lib.itoa n).toArray.size ≤ 19
  simpa using this
theorem b_ReadDecimal (n : Int) (h : n.natAbs < 1000000000000000000) : G.i_ReadDecimal ⟨(Go.Lib.itoa n).toArray⟩ = some (n, true) := by
  have hs := b_size n h
  rw [p_ReadDecimal _ (by omega), numR_itoa n h]
end Go.Proofs.YtihjdodmlddffaaDoor.Fw
namespace Go.Proofs.YtihjdodmlddffaaDoor.Fw
open Go.RowKit
set_option linter.unusedVariables false
set_option linter.unusedSimpArgs false
def ownS : List Int := [20, 35, 15, 50, 95, 5, 10, 40, 80, 70]
theorem ownS_in {k : Nat} (hk : k < 10) : 5 ≤ ownS.getD k default ∧ ownS.getD k default ≤ 95 := by
  match k, hk with
  | 0, _ => decide
  | 1, _ => decide
  | 2, _ => decide
  | 3, _ => decide
  | 4, _ => decide
  | 5, _ => decide
  | 6, _ => decide
  | 7, _ => decide
  | 8, _ => decide
  | 9, _ => decide
theorem sp_data {k : Nat} (hk : k < 10) : ∃ x y, G.i_SpeciesData (names.getD k default) = some (ownS.getD k default, x, y, 0) := by
  match k, hk with
  | 0, _ => exact ⟨_, _, rfl⟩
  | 1, _ => exact ⟨_, _, rfl⟩
  | 2, _ => exact ⟨_, _, rfl⟩
  | 3, _ => exact ⟨_, _, rfl⟩
  | 4, _ => exact ⟨_, _, rfl⟩
  | 5, _ => exact ⟨_, _, rfl⟩
  | 6, _ => exact ⟨_, _, rfl⟩
  | 7, _ => exact ⟨_, _, rfl⟩
  | 8, _ => exact ⟨_, _, rfl⟩
  | 9, _ => exact ⟨_, _, rfl⟩
theorem sp_plain {k : Nat} (hk : k < 10) : (32 : UInt8) ∉ (names.getD k default).data.toList ∧ (names.getD k default).size ≤ 20 ∧ (names.getD k default).size ≠ 0 := by
  match k, hk with
  | 0, _ => decide
  | 1, _ => decide
  | 2, _ => decide
  | 3, _ => decide
  | 4, _ => decide
  | 5, _ => decide
  | 6, _ => decide
  | 7, _ => decide
  | 8, _ => decide
  | 9, _ => decide
theorem tab_own {k : Nat} (hk : k < 10) (t : List (List Int)) (ht : G.s_l07Table = some t) : t.length = 10 ∧ (t.getD k default).length = 3 ∧ (t.getD k default).getD 0 default = ownS.getD k default := by
  have ht := Option.some.inj ht
  subst ht
  match k, hk with
  | 0, _ => decide
  | 1, _ => decide
  | 2, _ => decide
  | 3, _ => decide
  | 4, _ => decide
  | 5, _ => decide
  | 6, _ => decide
  | 7, _ => decide
  | 8, _ => decide
  | 9, _ => decide
/-- A veneer that is drawn. -/
structure VenR (v : TVeneer) (k : Nat) : Prop where
  lt : k < 10
  name : v.Species = names.getD k default
  sh : 0 ≤ v.Shade ∧ v.Shade ≤ 100
  own : v.Shade ≤ ownS.getD k default + 15 ∧ ownS.getD k default - 15 ≤ v.Shade
  gr : 0 ≤ v.Grain ∧ v.Grain ≤ 179
theorem inR_iffV {n lo hi : Int} : inR n lo hi = true ↔ lo ≤ n ∧ n ≤ hi := by unfold inR; simp
theorem v_ok {v : TVeneer} {k : Nat} (h : VenR v k) : G.i_ValidVeneer v.Species v.Shade v.Grain = some true := by
  obtain ⟨x, y, e⟩ := sp_data h.lt
  have ho := ownS_in h.lt
  have h1 := h.sh
  have h2 := h.own
  have h3 := h.gr
  have w1 : inR v.Shade 0 100 = true := inR_iffV.2 h1
  have w2 : inR (v.Shade - ownS.getD k default) (-15) 15 = true := inR_iffV.2 (by omega)
  have w3 : inR v.Grain 0 179 = true := inR_iffV.2 h3
  unfold G.i_ValidVeneer G.i_speciesShade
  rw [h.name, e]
  simp only [Option.bind_some, decide_true, cond_true, p_within, w1, w3]
  rw [wrap64 (by omega) (by omega), w2]
  rfl
theorem v_maxS (a b : Int) : G.s_l00Max a b = some (max a b) := by
  unfold G.s_l00Max
  by_cases h : b < a
  · rw [decide_eq_true h, cond_true, show max a b = a by omega]
  · rw [decide_eq_false h, cond_false, show max a b = b by omega]
theorem v_minS (a b : Int) : G.s_l00Min a b = some (min a b) := by
  unfold G.s_l00Min
  by_cases h : a < b
  · rw [decide_eq_true h, cond_true, show min a b = a by omega]
  · rw [decide_eq_false h, cond_false, show min a b = b by omega]
theorem p_R8Veneer (c : List Int) (hc : bytesOk c) : ∃ v k, G.s_R8Veneer c = some v ∧ VenR v k := by
  obtain ⟨s1, k, e1, k1, a1, b1⟩ := p_pick hc (m := 0) (by omega) (s := Tl00Src.mk c 0 0) ⟨rfl, Int.le_refl _, Int.le_refl _⟩ 10 (by omega)
  have e1 : G.s_l00Src_pick c 0 0 10 = some (s1, k) := e1
  obtain ⟨s2, d, e2, k2, a2, b2⟩ := p_pick hc (m := 2) (by omega) k1 21 (by omega)
  obtain ⟨s3, g, e3, k3, a3, b3⟩ := p_pick hc (m := 4) (by omega) k2 180 (by omega)
  obtain ⟨s4, gr, e4, k4, m4⟩ := p_among hc (m := 6) (by omega) k3 [g, g, 0, 90, 45] (by simp) (by simp)
  have c1 := b1 (by omega)
  have c2 := b2 (by omega)
  have c3 := b3 (by omega)
  obtain ⟨t, ht⟩ : ∃ t, G.s_l07Table = some t := ⟨_, rfl⟩
  obtain ⟨t1, t2, t3⟩ := tab_own (k := k.toNat) (by omega) t ht
  have ho := ownS_in (k := k.toNat) (by omega)
  have hn : G.s_l07Names = some names := rfl
  have hnl : names.length = 10 := by decide
  have hgr : 0 ≤ gr ∧ gr ≤ 179 := by
    simp only [List.mem_cons, List.not_mem_nil, or_false] at m4
    omega
  refine ⟨⟨names.getD k.toNat default, min 100 (max 0 (ownS.getD k.toNat default + d - 10)), gr⟩, k.toNat, ?_, by omega, rfl, by simp only; omega, by simp only; omega, hgr⟩
  unfold G.s_R8Veneer G.s_l00From G.s_l07Draw
  simp only [Option.bind_some, e1, ht, hn, t1, t2, t3, hnl]
  rw [if_pos ⟨by omega, by omega⟩, if_pos ⟨by omega, by omega⟩, e2]
  simp only [Option.bind_some]
  rw [if_pos ⟨by omega, by omega⟩, wrap64 (x := ownS.getD k.toNat default + d) (by omega) (by omega), wrap64 (x := ownS.getD k.toNat default + d - 10) (by omega) (by omega), v_maxS, Option.bind_some, v_minS, Option.bind_some, e3]
  simp only [Option.bind_some, e4]
/-- The angle of two grains. -/
def angV (a b : Int) : Int := min (max (a - b) (b - a)) (180 - max (a - b) (b - a))
theorem angV_comm (a b : Int) : angV a b = angV b a := by unfold angV; rw [Int.max_comm]
theorem p_GrainAngle (a b : Int) (ha : 0 ≤ a ∧ a ≤ 179) (hb : 0 ≤ b ∧ b ≤ 179) : G.i_GrainAngle a b = some (angV a b, 0) := by
  have w1 : inR a 0 179 = true := inR_iffV.2 ha
  have w2 : inR b 0 179 = true := inR_iffV.2 hb
  unfold G.i_GrainAngle angV
  simp only [p_within, w1, w2, Option.bind_some, cond_true, cond_false, Bool.not_true]
  rw [wrap64 (x := a - b) (by omega) (by omega), wrap64 (x := b - a) (by omega) (by omega), wrap64 (x := 180 - max (a - b) (b - a)) (by omega) (by omega)]
def conV (v w : TVeneer) : Int := max (v.Shade - w.Shade) (w.Shade - v.Shade) + (angV v.Grain w.Grain) / 6
theorem p_ContrastOf {v w : TVeneer} {k j : Nat} (hv : VenR v k) (hw : VenR w j) : G.i_ContrastOf v.Species v.Shade v.Grain w.Species w.Shade w.Grain = some (conV v w, 0) ∧ 0 ≤ conV v w := by
  have h1 := hv.sh
  have h2 := hw.sh
  have h3 := hv.gr
  have h4 := hw.gr
  have ha : 0 ≤ angV v.Grain w.Grain ∧ angV v.Grain w.Grain ≤ 90 := by unfold angV; omega
  refine ⟨?_, by unfold conV; omega⟩
  unfold G.i_ContrastOf G.i_contrast
  simp only [v_ok hv, v_ok hw, Option.bind_some, cond_true, Bool.not_true, cond_false, p_GrainAngle _ _ h3 h4]
  rw [Int.tdiv_eq_ediv_of_nonneg ha.1, wrap64 (x := v.Shade - w.Shade) (by omega) (by omega), wrap64 (x := w.Shade - v.Shade) (by omega) (by omega), wrap64 (x := angV v.Grain w.Grain / 6) (by omega) (by omega), wrap64 (by omega) (by omega)]
  rfl
theorem conV_comm (v w : TVeneer) : conV v w = conV w v := by unfold conV; rw [angV_comm, Int.max_comm]
theorem conV_self (v : TVeneer) : conV v v = 0 := by unfold conV angV; omega
/-- A grain after a turn. -/
def turnV (g t : Int) : Int := ((if 3 < t then 180 - g else g) + 90 * t) % 180
theorem p_TurnGrain (g t : Int) (hg : 0 ≤ g ∧ g ≤ 179) (ht : 0 ≤ t ∧ t ≤ 7) : G.i_TurnGrain g t = some (turnV g t, 0) ∧ 0 ≤ turnV g t ∧ turnV g t ≤ 179 := by
  have w1 : inR g 0 179 = true := inR_iffV.2 hg
  have w2 : inR t 0 7 = true := inR_iffV.2 ht
  refine ⟨?_, by unfold turnV; omega, by unfold turnV; omega⟩
  unfold G.i_TurnGrain turnV
  simp only [p_within, w1, w2, Option.bind_some, cond_true, cond_false, Bool.not_true]
  by_cases c : 3 < t
  · rw [decide_eq_true c, if_pos c]
    simp only [cond_true, Option.bind_some]
    rw [wrap64 (x := 180 - g) (by omega) (by omega), wrap64 (x := 90 * t) (by omega) (by omega), wrap64 (by omega) (by omega), Int.tmod_eq_emod_of_nonneg (by omega)]
  · rw [decide_eq_false c, if_neg c]
    simp only [cond_false, Option.bind_some]
    rw [wrap64 (x := 90 * t) (by omega) (by omega), wrap64 (by omega) (by omega), Int.tmod_eq_emod_of_nonneg (by omega)]
theorem p_Inverse (t : Int) (ht : 0 ≤ t ∧ t ≤ 7) : ∃ b, G.s_InverseTurn t = some (b, 0) ∧ 0 ≤ b ∧ b ≤ 7 ∧ ∀ g, 0 ≤ g → g ≤ 179 → turnV (turnV g t) b = g := by
  have w : inR t 0 7 = true := inR_iffV.2 ht
  unfold G.s_InverseTurn G.s_l02Turn G.s_l02Inverse
  simp only [p_l00In, w, Option.bind_some, cond_true]
  by_cases c : 4 ≤ t
  · rw [decide_eq_true c]
    refine ⟨t, rfl, by omega, by omega, fun g g1 g2 => ?_⟩
    unfold turnV
    rw [if_pos (by omega), if_pos (by omega)]
    omega
  · rw [decide_eq_false c]
    simp only [cond_false, Option.bind_some]
    rw [wrap64 (by omega) (by omega), Int.tmod_eq_emod_of_nonneg (by omega)]
    refine ⟨(4 - t) % 4, rfl, by omega, by omega, fun g g1 g2 => ?_⟩
    unfold turnV
    rw [if_neg (by omega), if_neg (by omega)]
    omega
end Go.Proofs.YtihjdodmlddffaaDoor.Fw
namespace Go.Proofs.YtihjdodmlddffaaDoor.Fw
open Go.RowKit
set_option linter.unusedVariables false
set_option linter.unusedSimpArgs false
theorem itoa_free32 (n : Int) : (32 : UInt8) ∉ Go.Lib.itoa n := fun h => by
  have key : ∀ u, (32 : UInt8) ∉ Go.Lib.decDigits u := fun u h => by
    have := isDg_lo (List.all_eq_true.1 (dec_spec u).1 _ h)
    revert this
    decide
  rcases itoa_cases n with ⟨u, _, e⟩ | ⟨u, _, _, e⟩
  · rw [e] at h
    exact key u h
  · rw [e] at h
    rcases List.mem_cons.1 h with h | h
    · exact absurd h (by decide)
    · exact key u h
theorem app_data (a b : ByteArray) : (a ++ b).data.toList = a.data.toList ++ b.data.toList := by
  rw [ByteArray.data_append, Array.toList_append]
theorem app_size (a b : ByteArray) : (a ++ b).size = a.size + b.size := by
  rw [size_data, size_data, size_data, app_data, List.length_append]
/-- A veneer is read back from its text. -/
theorem v_text {v : TVeneer} {k : Nat} (h : VenR v k) : ∃ t, G.i_VeneerText v.Species v.Shade v.Grain = some t ∧ G.i_ReadVeneer t = some (v, true) := by
  have hs := h.sh
  have hg := h.gr
  have hp := sp_plain h.lt
  rw [← h.name] at hp
  have s1 := b_size v.Shade (by omega)
  have s2 := b_size v.Grain (by omega)
  have hone : (⟨#[32]⟩ : ByteArray).size = 1 := rfl
  refine ⟨(((v.Species ++ (⟨#[32]⟩ : ByteArray)) ++ ⟨(Go.Lib.itoa v.Shade).toArray⟩) ++ (⟨#[32]⟩ : ByteArray)) ++ ⟨(Go.Lib.itoa v.Grain).toArray⟩, ?_, ?_⟩
  · unfold G.i_VeneerText
    rw [v_ok h, Option.bind_some, cond_true, if_neg (by omega), b_Decimal v.Shade (by omega) (by omega), Option.bind_some, if_neg (by omega), if_neg (by omega), b_Decimal v.Grain (by omega) (by omega), Option.bind_some, if_neg (by omega)]
  · obtain ⟨L, l1, l2⟩ := p_Split ((((v.Species ++ (⟨#[32]⟩ : ByteArray)) ++ ⟨(Go.Lib.itoa v.Shade).toArray⟩) ++ (⟨#[32]⟩ : ByteArray)) ++ ⟨(Go.Lib.itoa v.Grain).toArray⟩) 32 (by simp only [app_size]; omega)
    have hL : L = [v.Species, ⟨(Go.Lib.itoa v.Shade).toArray⟩, ⟨(Go.Lib.itoa v.Grain).toArray⟩] := by
      refine eq_of_data ?_
      rw [l2]
      have e : ((((v.Species ++ (⟨#[32]⟩ : ByteArray)) ++ ⟨(Go.Lib.itoa v.Shade).toArray⟩) ++ (⟨#[32]⟩ : ByteArray)) ++ ⟨(Go.Lib.itoa v.Grain).toArray⟩).data.toList = v.Species.data.toList ++ 32 :: (Go.Lib.itoa v.Shade ++ 32 :: Go.Lib.itoa v.Grain) := by
        simp only [app_data, List.append_assoc]
        simp
      rw [e, spl_app 32 _ _ hp.1, spl_app 32 _ _ (itoa_free32 _), spl_free 32 _ (itoa_free32 _)]
      simp
    unfold G.i_ReadVeneer
    have l1 : G.strings_Split _ (⟨#[32]⟩ : ByteArray) = some L := l1
    rw [l1, Option.bind_some, hL]
    have g0 : ([v.Species, ⟨(Go.Lib.itoa v.Shade).toArray⟩, ⟨(Go.Lib.itoa v.Grain).toArray⟩] : List ByteArray).getD 0 default = v.Species := rfl
    have g1 : ([v.Species, ⟨(Go.Lib.itoa v.Shade).toArray⟩, ⟨(Go.Lib.itoa v.Grain).toArray⟩] : List ByteArray).getD 1 default = ⟨(Go.Lib.itoa v.Shade).toArray⟩ := rfl
    have g2 : ([v.Species, ⟨(Go.Lib.itoa v.Shade).toArray⟩, ⟨(Go.Lib.itoa v.Grain).toArray⟩] : List ByteArray).getD 2 default = ⟨(Go.Lib.itoa v.Grain).toArray⟩ := rfl
    have gl : ((([v.Species, ⟨(Go.Lib.itoa v.Shade).toArray⟩, ⟨(Go.Lib.itoa v.Grain).toArray⟩] : List ByteArray).length : Nat) : Int) = 3 := rfl
    rw [g0, g1, g2, gl, decide_eq_true rfl, cond_true, if_pos ⟨by omega, by omega⟩, b_ReadDecimal _ (by omega), Option.bind_some, if_pos ⟨by omega, by omega⟩, b_ReadDecimal _ (by omega), Option.bind_some, if_pos ⟨by omega, by omega⟩]
    simp only [cond_true, Option.bind_some, v_ok h]
def farS (s : Int) (j : Nat) : Int := max (ownS.getD j default - s) (s - ownS.getD j default)
theorem names_len : names.length = 10 := by decide
theorem i_names : G.i_SpeciesNames = some names := rfl
theorem sp_shade {k : Nat} (hk : k < 10) : G.i_speciesShade (names.getD k default) = some (ownS.getD k default, true) := by
  obtain ⟨x, y, e⟩ := sp_data hk
  unfold G.i_speciesShade
  rw [e]
  rfl
theorem p_Nearest (s : Int) (h0 : 0 ≤ s) (h1 : s ≤ 100) : ∃ j, j < 10 ∧ G.i_NearestSpecies s = some (names.getD j default, 0) ∧ ∀ i, i < 10 → farS s j ≤ farS s i := by
  have w : inR s 0 100 = true := inR_iffV.2 ⟨h0, h1⟩
  have hh := iter_go (step := G.i_NearestSpecies.s0 s names) (n := 10) (A := ByteArray × Int) (g := fun a => a.1) (fun i a => (a.1, a.2, (i : Int)))
    (fun i a => (i = 0 ∧ a.1 = ⟨#[]⟩) ∨ ∃ j, j < i ∧ a.1 = names.getD j default ∧ a.2 = farS s j ∧ ∀ q, q < i → farS s j ≤ farS s q) (fun _ => False) ?_ ?_ 10 0 (⟨#[]⟩, 0) (by omega) (.inl ⟨rfl, rfl⟩)
  · rcases hh with ⟨⟨b, l⟩, hI, h⟩ | ⟨r, hr, _⟩
    · rcases hI with ⟨h2, _⟩ | ⟨j, j1, j2, j3, j4⟩
      · omega
      · refine ⟨j, j1, ?_, j4⟩
        unfold G.i_NearestSpecies
        have h : iter (G.i_NearestSpecies.s0 s names) ((⟨#[]⟩ : ByteArray), (0 : Int), (0 : Int)) = _ := h
        rw [p_within, w, Option.bind_some, cond_true, i_names, Option.bind_some, h]
        simp only at j2
        rw [j2]
        rfl
    · exact hr.elim
  · rintro i ⟨b, l⟩ hi hI
    have ho := ownS_in hi
    simp only [G.i_NearestSpecies.s0, names_len, Int.toNat_natCast]
    rw [decide_eq_true (by omega), cond_true, if_pos ⟨by omega, by omega⟩, sp_shade hi]
    simp only [Option.bind_some]
    rw [wrap64 (x := ownS.getD i default - s) (by omega) (by omega), wrap64 (x := s - ownS.getD i default) (by omega) (by omega), wrap64 (x := (i : Int) + 1) (by omega) (by omega)]
    rcases hI with ⟨h2, h3⟩ | ⟨j, j1, j2, j3, j4⟩
    · simp only at h3
      subst h3 h2
      exact .inl ⟨(names.getD 0 default, farS s 0), rfl, .inr ⟨0, by omega, rfl, rfl, fun q hq => by obtain rfl : q = 0 := (by omega); exact Int.le_refl _⟩⟩
    · simp only at j2 j3
      subst j2 j3
      have hne := (sp_plain (k := j) (by omega)).2.2
      rw [decide_eq_false hne]
      simp only [cond_false, Option.bind_some]
      by_cases c : max (ownS.getD i default - s) (s - ownS.getD i default) < farS s j
      · rw [decide_eq_true c]
        refine .inl ⟨(names.getD i default, farS s i), rfl, .inr ⟨i, by omega, rfl, rfl, fun q hq => ?_⟩⟩
        by_cases e : q = i
        · subst e; exact Int.le_refl _
        · have := j4 q (by omega)
          have : farS s i < farS s j := c
          omega
      · rw [decide_eq_false c]
        refine .inl ⟨(names.getD j default, farS s j), rfl, .inr ⟨j, by omega, rfl, rfl, fun q hq => ?_⟩⟩
        by_cases e : q = i
        · subst e
          have : ¬ farS s q < farS s j := c
          omega
        · exact j4 q (by omega)
  · rintro ⟨b, l⟩ _
    simp only [G.i_NearestSpecies.s0, names_len]
    rw [decide_eq_false (by omega), cond_false]
theorem take_snocV {α : Type} [Inhabited α] {l : List α} {i : Nat} (hi : i < l.length) : l.take i ++ [l.getD i default] = l.take (i + 1) := by
  rw [List.take_succ_eq_append_getElem hi, List.getD_eq_getElem?_getD, List.getElem?_eq_getElem hi, Option.getD_some]
theorem p_Within (s : Int) (h0 : 0 ≤ s) (h1 : s ≤ 100) : G.i_SpeciesWithin s 100 = some (some names, 0) := by
  have w : inR s 0 100 = true := inR_iffV.2 ⟨h0, h1⟩
  have w2 : inR 100 0 100 = true := by decide
  have hh := iter_inv (step := G.i_SpeciesWithin.s0 s 100 names) (n := 10) (g := fun o => o) (fun i (o : List ByteArray) => o = names.take i) ?_ ?_ 10 0 [] (by omega) rfl
  · obtain ⟨o, ho, h⟩ := hh
    have : names.take 10 = names := by decide
    rw [this] at ho
    subst ho
    have h : iter (G.i_SpeciesWithin.s0 s 100 names) (([] : List ByteArray), (0 : Int)) = _ := h
    unfold G.i_SpeciesWithin
    simp only [p_within, w, w2, Option.bind_some, cond_true, Bool.not_true, cond_false, i_names, h, jn, Sum.elim_inl]
  · intro i o hi ho
    subst ho
    have hb := ownS_in hi
    have hl : (names.take i).length = i := by rw [List.length_take, names_len]; omega
    have w3 : inR (ownS.getD i default - s) (-100) 100 = true := inR_iffV.2 (by omega)
    simp only [G.i_SpeciesWithin.s0, names_len, Int.toNat_natCast]
    rw [decide_eq_true (by omega), cond_true, if_pos ⟨by omega, by omega⟩, sp_shade hi]
    simp only [Option.bind_some]
    rw [wrap64 (x := ownS.getD i default - s) (by omega) (by omega), wrap64 (x := (0 : Int) - 100) (by omega) (by omega), p_within, show (0 : Int) - 100 = -100 by omega, w3, Option.bind_some, cond_true, if_pos ⟨by omega, by omega⟩, Option.bind_some, wrap64 (by omega) (by omega), take_snocV (by rw [names_len]; omega)]
    exact ⟨_, rfl, rfl⟩
  · intro o ho
    simp only [G.i_SpeciesWithin.s0, names_len]
    rw [decide_eq_false (by omega), cond_false]
theorem p_Mean {v w : TVeneer} {k j : Nat} (hv : VenR v k) (hw : VenR w j) : ∃ m, G.i_MeanShade [v, w] = some (m, 0) ∧ min v.Shade w.Shade ≤ m ∧ m ≤ max v.Shade w.Shade := by
  have h1 := hv.sh
  have h2 := hw.sh
  have e0 : G.i_MeanShade.s0 [v, w] ((0 : Int), (0 : Int)) = some (.inl (v.Shade, (1 : Int))) := by
    simp only [G.i_MeanShade.s0]
    have g : ([v, w] : List TVeneer).getD (0 : Int).toNat default = v := rfl
    have gl : ((([v, w] : List TVeneer).length : Nat) : Int) = 2 := rfl
    rw [g, gl, decide_eq_true (by omega), cond_true, if_pos ⟨by omega, by omega⟩, v_ok hv, Option.bind_some, cond_true, wrap64 (by omega) (by omega), wrap64 (by omega) (by omega), Int.zero_add, Int.zero_add]
  have e1 : G.i_MeanShade.s0 [v, w] (v.Shade, (1 : Int)) = some (.inl (v.Shade + w.Shade, (2 : Int))) := by
    simp only [G.i_MeanShade.s0]
    have g : ([v, w] : List TVeneer).getD (1 : Int).toNat default = w := rfl
    have gl : ((([v, w] : List TVeneer).length : Nat) : Int) = 2 := rfl
    rw [g, gl, decide_eq_true (by omega), cond_true, if_pos ⟨by omega, by omega⟩, v_ok hw, Option.bind_some, cond_true, wrap64 (by omega) (by omega), wrap64 (by omega) (by omega)]
    rfl
  have e2 : G.i_MeanShade.s0 [v, w] (v.Shade + w.Shade, (2 : Int)) = some (.inr (.inl (v.Shade + w.Shade))) := by
    simp only [G.i_MeanShade.s0]
    have gl : ((([v, w] : List TVeneer).length : Nat) : Int) = 2 := rfl
    rw [gl, decide_eq_false (by omega), cond_false]
  have he := near_err (v.Shade + w.Shade) 2 (by omega)
  refine ⟨near (v.Shade + w.Shade) 2, ?_, by omega, by omega⟩
  have gl : ((([v, w] : List TVeneer).length : Nat) : Int) = 2 := rfl
  unfold G.i_MeanShade
  rw [(iter_inl e0).trans ((iter_inl e1).trans (iter_inr e2))]
  simp only [jn, Option.bind_some, Sum.elim_inl, gl]
  rw [decide_eq_false (by omega), cond_false, decide_eq_false (by omega), cond_false, p_nearest _ 2 (by omega) (by omega) (by omega) (by omega), Option.bind_some]
theorem p_abs (n : Int) (h1 : -1000 ≤ n) (h2 : n ≤ 1000) : G.l_r8Abs n = some (max n (0 - n)) := by
  unfold G.l_r8Abs
  rw [wrap64 (by omega) (by omega)]
theorem law_Veneers (c m : List Int) (hc : ∀ x ∈ c, 0 ≤ x ∧ x ≤ 255) (hm : ∀ x ∈ m, 0 ≤ x ∧ x ≤ 255) : G.l_FnVeneers c m = some true := by
  unfold G.l_FnVeneers G.l_r8Long
  by_cases c1 : (1048576 : Int) < ((c.length : Nat) : Int)
  · rw [decide_eq_true c1]; rfl
  · rw [decide_eq_false c1, cond_false, Option.bind_some]
    by_cases c2 : (1048576 : Int) < ((m.length : Nat) : Int)
    · rw [decide_eq_true c2]; rfl
    · rw [decide_eq_false c2, Option.bind_some, cond_false]
      have hc : bytesOk c := ⟨by omega, hc⟩
      have hm : bytesOk m := ⟨by omega, hm⟩
      obtain ⟨v, k, e1, hv⟩ := p_R8Veneer c hc
      obtain ⟨w, j, e2, hw⟩ := p_R8Veneer m hm
      obtain ⟨t, t1, t2, t3, t4⟩ := p_r8At m hm 0 8 (by omega) (by omega)
      have t5 := t4 (by omega)
      obtain ⟨b, b1, b2, b3, b4⟩ := p_Inverse t ⟨t2, by omega⟩
      obtain ⟨u1, u2, u3⟩ := p_TurnGrain v.Grain t hv.gr ⟨t2, by omega⟩
      obtain ⟨u4, _, _⟩ := p_TurnGrain (turnV v.Grain t) b ⟨u2, u3⟩ ⟨b2, b3⟩
      rw [b4 v.Grain hv.gr.1 hv.gr.2] at u4
      obtain ⟨x, x1, x2⟩ := v_text hv
      obtain ⟨d1, d2⟩ := p_ContrastOf hv hw
      obtain ⟨d3, d4⟩ := p_ContrastOf hw hv
      obtain ⟨d5, d6⟩ := p_ContrastOf hv hv
      rw [conV_comm w v] at d3
      rw [conV_self] at d5
      have g1 := p_GrainAngle v.Grain w.Grain hv.gr hw.gr
      have g2 := p_GrainAngle w.Grain v.Grain hw.gr hv.gr
      rw [angV_comm w.Grain v.Grain] at g2
      have ga : 0 ≤ angV v.Grain w.Grain ∧ angV v.Grain w.Grain ≤ 90 := by have := hv.gr; have := hw.gr; unfold angV; omega
      have hsh := hv.sh
      obtain ⟨n, n1, n2, n3⟩ := p_Nearest v.Shade hsh.1 hsh.2
      have n4 := p_Within v.Shade hsh.1 hsh.2
      obtain ⟨y1, y2, y3⟩ := sp_data n1
      obtain ⟨y4, y5, y6⟩ := sp_data hv.lt
      rw [← hv.name] at y6
      obtain ⟨q, q1, q2, q3⟩ := p_Mean hv hw
      have hn1 := ownS_in n1
      have hk1 := ownS_in hv.lt
      have hfar := n3 k hv.lt
      have r1 := p_abs (ownS.getD n default - v.Shade) (by omega) (by omega)
      have r2 := p_abs (ownS.getD k default - v.Shade) (by omega) (by omega)
      have hle : max (ownS.getD n default - v.Shade) (0 - (ownS.getD n default - v.Shade)) ≤ max (ownS.getD k default - v.Shade) (0 - (ownS.getD k default - v.Shade)) := by
        unfold farS at hfar; omega
      have hsn : G.s_SpeciesNames = some names := rfl
      have z0 : decide ((0 : Int) = 0) = true := rfl
      have z1 : decide (angV v.Grain w.Grain < 0) = false := decide_eq_false (by omega)
      have z2 : decide ((90 : Int) < angV v.Grain w.Grain) = false := decide_eq_false (by omega)
      have z3 : decide (conV v w < 0) = false := decide_eq_false (by omega)
      simp only [e1, e2, Option.bind_some, g1, g2, d1, d3, d5, t1, b1, u1, u4, x1, x2, decide_true, Bool.not_true, cond_true, cond_false, z1, z2, z3, Bool.and_self]
      simp only [n2, n4, Option.bind_some, onO, y3, y6, q1, decide_true, cond_true, hsn]
      rw [wrap64 (x := ownS.getD n default - v.Shade) (by omega) (by omega), wrap64 (x := ownS.getD k default - v.Shade) (by omega) (by omega), r1, r2]
      simp only [Option.bind_some, decide_eq_true hle, decide_eq_true q2, decide_eq_true q3, cond_true]
theorem ret_FnVeneers (nl : Bool) (rows : List (List CV)) (hl : rows.length ≤ 9223372036854775807) (_ : nl = true → rows = []) (hr : ∀ r ∈ rows, Okl [.int .u8] r) (nl2 : Bool) (rows2 : List (List CV)) (hl2 : rows2.length ≤ 9223372036854775807) (_ : nl2 = true → rows2 = []) (hr2 : ∀ r ∈ rows2, Okl [.int .u8] r) :
    Ret Tryd.prog 5 none [.c (.sl nl false 1 rows), .c (.sl nl2 false 1 rows2)] [] (.c (.v (.bool true))) := by
  obtain ⟨a, rfl, ha⟩ := bytes_in hr
  obtain ⟨b, rfl, hb⟩ := bytes_in hr2
  exact Ret.args (by simp [AV.lo]) (AWkL.cons (AWk.c CWk.sl) (AWkL.cons (AWk.c CWk.sl) AWkL.nil)) (ret_l_FnVeneers a b (law_Veneers a b ha hb))
end Go.Proofs.YtihjdodmlddffaaDoor.Fw
