/- What the functions without memory come to. No condition. -/
import Derived.Test.YtihjdodmlddffaaDoorHAma
import Derived.Test.YtihjdodmlddffaaDoorFwGf
import Derived.Test.YtihjdodmlddffaaDoorFwZb
namespace Go.Proofs.YtihjdodmlddffaaDoor.Fw
open Go.RowKit
set_option linter.unusedVariables false
set_option linter.unusedSimpArgs false
theorem all_getD {a b : List Int} (hl : a.length = b.length) : ((List.range' 0 a.length).all fun i => decide (a.getD i default = b.getD i default)) = decide (a = b) := by
  rw [Bool.eq_iff_iff, List.all_eq_true, decide_eq_true_eq]
  constructor
  · intro h
    refine List.ext_getElem hl fun i h1 h2 => ?_
    have := h i (by simp [List.mem_range'_1]; exact h1)
    simpa [List.getD_eq_getElem?_getD, h1, h2] using this
  · rintro rfl i _
    simp
end Go.Proofs.YtihjdodmlddffaaDoor.Fw
namespace Go.Proofs.YtihjdodmlddffaaDoor.Fw
open Go.RowKit
set_option linter.unusedVariables false
set_option linter.unusedSimpArgs false
def inR (n lo hi : Int) : Bool := decide (lo ≤ n) && decide (n ≤ hi)
theorem p_within (n lo hi : Int) : G.i_within n lo hi = some (inR n lo hi) := by
  unfold G.i_within inR; cases decide (lo ≤ n) <;> rfl
theorem all_getDL {α : Type} [Inhabited α] [DecidableEq α] {a b : List α} (hl : a.length = b.length) : ((List.range' 0 a.length).all fun i => decide (a.getD i default = b.getD i default)) = decide (a = b) := by
  rw [Bool.eq_iff_iff, List.all_eq_true, decide_eq_true_eq]
  constructor
  · intro h
    refine List.ext_getElem hl fun i h1 h2 => ?_
    have := h i (by simp [List.mem_range'_1]; exact h1)
    simpa [List.getD_eq_getElem?_getD, h1, h2] using this
  · rintro rfl i _
    simp
theorem makeOk_of {n : Nat} {b : Nat} (h : n ≤ 1048576) (hb : b ≤ 1000) : makeOk (n : Int) (n : Int) b := by
  unfold makeOk
  have h1 : n * b ≤ 1048576 * 1000 := Nat.mul_le_mul h hb
  have h2 : (b : Int) * (n : Int) = ((n * b : Nat) : Int) := by rw [Int.natCast_mul, Int.mul_comm]
  refine ⟨?_, ?_, ?_, ?_⟩ <;> omega
end Go.Proofs.YtihjdodmlddffaaDoor.Fw
namespace Go.Proofs.YtihjdodmlddffaaDoor.Fw
open Go.RowKit
set_option linter.unusedVariables false
set_option linter.unusedSimpArgs false
theorem root_loop {R : Type} (n : Int) (h1 : 1 ≤ n) (hn : n ≤ 9223372036854775807) (step : Int × Int → Option ((Int × Int) ⊕ (Int ⊕ R)))
    (hs : ∀ lo hi, 1 ≤ lo → lo < hi → hi ≤ 3037000499 → step (lo, hi) = some (.inl (if ((lo + hi + 1) / 2) * ((lo + hi + 1) / 2) ≤ n then ((lo + hi + 1) / 2, hi) else (lo, (lo + hi + 1) / 2 - 1))))
    (he : ∀ lo hi, ¬ lo < hi → step (lo, hi) = some (.inr (.inl lo))) :
    ∃ r, iter step ((1 : Int), (3037000499 : Int)) = some (.inl r) ∧ 1 ≤ r ∧ r ≤ 3037000499 ∧ r * r ≤ n ∧ n < (r + 1) * (r + 1) := by
  have key : ∀ (m : Nat) (lo hi : Int), hi - lo ≤ (m : Int) → 1 ≤ lo → lo ≤ hi → hi ≤ 3037000499 → lo * lo ≤ n → n < (hi + 1) * (hi + 1) →
      ∃ r, iter step (lo, hi) = some (.inl r) ∧ 1 ≤ r ∧ r ≤ 3037000499 ∧ r * r ≤ n ∧ n < (r + 1) * (r + 1) := by
    intro m
    induction m with
    | zero =>
      intro lo hi g1 g2 g3 g4 g5 g6
      obtain rfl : lo = hi := by omega
      exact ⟨lo, iter_inr (he lo lo (by omega)), g2, g4, g5, g6⟩
    | succ m ih =>
      intro lo hi g1 g2 g3 g4 g5 g6
      by_cases c : lo < hi
      · by_cases c2 : ((lo + hi + 1) / 2) * ((lo + hi + 1) / 2) ≤ n
        · obtain ⟨r, k⟩ := ih ((lo + hi + 1) / 2) hi (by omega) (by omega) (by omega) g4 c2 g6
          refine ⟨r, (iter_inl ?_).trans k.1, k.2⟩
          rw [hs lo hi g2 c g4, if_pos c2]
        · obtain ⟨r, k⟩ := ih lo ((lo + hi + 1) / 2 - 1) (by omega) (by omega) (by omega) (by omega) g5 (by rw [Int.sub_add_cancel]; omega)
          refine ⟨r, (iter_inl ?_).trans k.1, k.2⟩
          rw [hs lo hi g2 c g4, if_neg c2]
      · obtain rfl : lo = hi := by omega
        exact ⟨lo, iter_inr (he lo lo (by omega)), g2, g4, g5, g6⟩
  exact key 3037000499 1 3037000499 (by omega) (by omega) (by omega) (by omega) (by omega) (by omega)
theorem mid_iff {m n : Int} (h : 0 < m) (hn : 0 ≤ n) : m ≤ n.tdiv m ↔ m * m ≤ n := by
  rw [Int.tdiv_eq_ediv_of_nonneg hn, Int.le_ediv_iff_mul_le h]
/-- The nearest quotient of what is not negative. -/
def nearA (A b : Int) : Int := if b - A % b ≤ A % b then A / b + 1 else A / b
def near (a b : Int) : Int := if a < 0 then -nearA (-a) b else nearA a b
theorem nearA_nonneg {A b : Int} (hA : 0 ≤ A) (hb : 0 < b) : 0 ≤ nearA A b := by
  have := Int.ediv_nonneg hA (Int.le_of_lt hb)
  unfold nearA; split <;> omega
theorem nearA_err {A b : Int} (hA : 0 ≤ A) (hb : 0 < b) : -b ≤ 2 * (A - nearA A b * b) ∧ 2 * (A - nearA A b * b) ≤ b := by
  have h1 := Int.mul_ediv_add_emod A b
  have h2 := Int.emod_nonneg A (Int.ne_of_gt hb)
  have h3 := Int.emod_lt_of_pos A hb
  have h4 : A / b * b = b * (A / b) := Int.mul_comm _ _
  unfold nearA
  split
  · rw [Int.add_mul, Int.one_mul, h4]; omega
  · rw [h4]; omega
theorem nearA_le {A b D : Int} (hA : 0 ≤ A) (hb : 0 < b) (h : A ≤ D * b) : nearA A b ≤ D := by
  have h1 := Int.mul_ediv_add_emod A b
  have h2 := Int.emod_nonneg A (Int.ne_of_gt hb)
  have h3 : A / b ≤ D := Int.ediv_le_of_le_mul hb h
  unfold nearA
  split
  · by_cases e : A / b = D
    · rw [e, Int.mul_comm] at h1
      omega
    · omega
  · exact h3
theorem nearA_zero {b : Int} (hb : 0 < b) : nearA 0 b = 0 := by
  unfold nearA
  rw [Int.zero_emod, Int.zero_ediv, if_neg (by omega)]
theorem near_neg (a b : Int) (hb : 0 < b) : near (-a) b = -near a b := by
  unfold near
  by_cases h : a < 0
  · rw [if_neg (by omega), if_pos h, Int.neg_neg]
  · by_cases h0 : a = 0
    · subst h0
      rw [if_neg (by omega), if_neg (by omega), Int.neg_zero, nearA_zero hb]
      rfl
    · rw [if_pos (by omega), if_neg h, Int.neg_neg]
theorem near_err (a b : Int) (hb : 0 < b) : -b ≤ 2 * (a - near a b * b) ∧ 2 * (a - near a b * b) ≤ b := by
  unfold near
  split
  · have := nearA_err (A := -a) (b := b) (by omega) hb
    rw [Int.neg_mul]
    omega
  · exact nearA_err (by omega) hb
theorem near_between {a b D : Int} (hb : 0 < b) (h0 : 0 ≤ a) (h : a ≤ D * b) : 0 ≤ near a b ∧ near a b ≤ D := by
  unfold near
  rw [if_neg (by omega)]
  exact ⟨nearA_nonneg h0 hb, nearA_le h0 hb h⟩
end Go.Proofs.YtihjdodmlddffaaDoor.Fw
namespace Go.Proofs.YtihjdodmlddffaaDoor.Fw
open Go.RowKit
set_option linter.unusedVariables false
set_option linter.unusedSimpArgs false
def bytesOk (c : List Int) : Prop := c.length ≤ 1048576 ∧ ∀ x ∈ c, 0 ≤ x ∧ x ≤ 255
def srcOk (c : List Int) (m : Int) (s : Tl00Src) : Prop := s.code = c ∧ 0 ≤ s.at_ ∧ s.at_ ≤ m
theorem srcOk.mono {c : List Int} {m n : Int} {s : Tl00Src} (h : srcOk c m s) (hn : m ≤ n) : srcOk c n s := ⟨h.1, h.2.1, by have := h.2.2; omega⟩
theorem and255 (x : BitVec 64) : 0 ≤ ((x &&& BitVec.ofInt 64 255).toNat : Int) ∧ ((x &&& BitVec.ofInt 64 255).toNat : Int) ≤ 255 := by
  have h : (x &&& BitVec.ofInt 64 255).toNat ≤ 255 := by
    rw [BitVec.toNat_and]
    exact Nat.le_trans Nat.and_le_right (by decide)
  omega
theorem wrapU64 {x : Int} (h1 : 0 ≤ x) (h2 : x ≤ 9223372036854775807) : IntKind.wrap .u64 x = x := by
  show x % 18446744073709551616 = x
  omega
theorem p_next {c : List Int} (hc : bytesOk c) {m : Int} (hm : m ≤ 1000000000000) {s : Tl00Src} (h : srcOk c m s) : ∃ s' v, G.s_l00Src_next s.code s.at_ s.seed = some (s', v) ∧ srcOk c (m + 1) s' ∧ 0 ≤ v ∧ v ≤ 255 := by
  obtain ⟨h1, h2, h3⟩ := h
  obtain ⟨hc1, hc2⟩ := hc
  unfold G.s_l00Src_next
  rw [h1]
  have hw : IntKind.wrap .i64 (s.at_ + 1) = s.at_ + 1 := wrap64 (by omega) (by omega)
  have hb : ∃ q, (bif (decide (s.at_ < ((c.length : Nat) : Int))) then (if 0 ≤ s.at_ ∧ s.at_ < ((c.length : Nat) : Int) then (some (IntKind.wrap .i64 (c.getD s.at_.toNat default))) else none) else (some (0 : Int))) = some q ∧ 0 ≤ q ∧ q ≤ 255 := by
    by_cases c1 : s.at_ < ((c.length : Nat) : Int)
    · rw [decide_eq_true c1, cond_true, if_pos ⟨h2, c1⟩]
      have hg : c.getD s.at_.toNat default ∈ c := by
        rw [List.getD_eq_getElem?_getD, List.getElem?_eq_getElem (by omega), Option.getD_some]
        exact List.getElem_mem _
      have := hc2 _ hg
      exact ⟨_, rfl, by rw [wrap64 (by omega) (by omega)]; omega⟩
    · rw [decide_eq_false c1]
      exact ⟨0, rfl, by omega, by omega⟩
  obtain ⟨q, hq, hq1, hq2⟩ := hb
  rw [hq, Option.bind_some, hw]
  by_cases c2 : s.at_ + 1 ≤ ((c.length : Nat) : Int)
  · rw [decide_eq_true c2]
    exact ⟨_, _, rfl, ⟨rfl, by show 0 ≤ s.at_ + 1; omega, by show s.at_ + 1 ≤ m + 1; omega⟩, hq1, hq2⟩
  · rw [decide_eq_false c2]
    refine ⟨_, _, rfl, ⟨rfl, by show 0 ≤ s.at_ + 1; omega, by show s.at_ + 1 ≤ m + 1; omega⟩, ?_⟩
    have key := and255 (BitVec.ofInt 64 ((IntKind.wrap .u64 ((IntKind.wrap .u64 ((IntKind.wrap .u64 (s.seed * (6364136223846793005 : Int))) + (IntKind.wrap .u64 q))) + (1442695040888963407 : Int))).fdiv (2 ^ 40)))
    show 0 ≤ IntKind.wrap .i64 (IntKind.wrap .u64 (((BitVec.ofInt 64 ((IntKind.wrap .u64 ((IntKind.wrap .u64 ((IntKind.wrap .u64 (s.seed * (6364136223846793005 : Int))) + (IntKind.wrap .u64 q))) + (1442695040888963407 : Int))).fdiv (2 ^ 40)) &&& BitVec.ofInt 64 255).toNat : Nat) : Int)) ∧ IntKind.wrap .i64 (IntKind.wrap .u64 (((BitVec.ofInt 64 ((IntKind.wrap .u64 ((IntKind.wrap .u64 ((IntKind.wrap .u64 (s.seed * (6364136223846793005 : Int))) + (IntKind.wrap .u64 q))) + (1442695040888963407 : Int))).fdiv (2 ^ 40)) &&& BitVec.ofInt 64 255).toNat : Nat) : Int)) ≤ 255
    generalize ((((BitVec.ofInt 64 ((IntKind.wrap .u64 ((IntKind.wrap .u64 ((IntKind.wrap .u64 (s.seed * (6364136223846793005 : Int))) + (IntKind.wrap .u64 q))) + (1442695040888963407 : Int))).fdiv (2 ^ 40)) &&& BitVec.ofInt 64 255).toNat : Nat) : Int)) = z at key
    rw [wrapU64 (by omega) (by omega), wrap64 (by omega) (by omega)]
    exact key
theorem p_pick {c : List Int} (hc : bytesOk c) {m : Int} (hm : m ≤ 100000000000) {s : Tl00Src} (h : srcOk c m s) (n : Int) (hn : n ≤ 1000000000000) : ∃ s' v, G.s_l00Src_pick s.code s.at_ s.seed n = some (s', v) ∧ srcOk c (m + 2) s' ∧ 0 ≤ v ∧ (1 ≤ n → v < n) := by
  unfold G.s_l00Src_pick
  by_cases c1 : n ≤ 1
  · rw [decide_eq_true c1]
    exact ⟨_, 0, rfl, ⟨h.1, h.2.1, by have := h.2.2; show s.at_ ≤ m + 2; omega⟩, by omega, by omega⟩
  · rw [decide_eq_false c1]
    obtain ⟨s1, v1, e1, h1, b1, b2⟩ := p_next hc (by omega) h
    rw [cond_false, e1, Option.bind_some]
    by_cases c2 : 200 < n
    · rw [decide_eq_true c2]
      obtain ⟨s2, v2, e2, h2, b3, b4⟩ := p_next hc (m := m + 1) (by omega) h1
      simp only [cond_true, e2, Option.bind_some]
      rw [if_neg (by omega), wrap64 (x := v1 * 256) (by omega) (by omega), wrap64 (x := v1 * 256 + v2) (by omega) (by omega)]
      refine ⟨_, _, rfl, ⟨h2.1, h2.2.1, by have := h2.2.2; show s2.at_ ≤ m + 2; omega⟩, Int.tmod_nonneg _ (by omega), fun _ => Int.tmod_lt_of_pos _ (by omega)⟩
    · rw [decide_eq_false c2]
      simp only [cond_false, Option.bind_some]
      rw [if_neg (by omega)]
      refine ⟨_, _, rfl, ⟨h1.1, h1.2.1, by have := h1.2.2; show s1.at_ ≤ m + 2; omega⟩, Int.tmod_nonneg _ (by omega), fun _ => Int.tmod_lt_of_pos _ (by omega)⟩
theorem mem_getD {α : Type} [Inhabited α] {l : List α} {i : Nat} (hi : i < l.length) : l.getD i default ∈ l := by
  rw [List.getD_eq_getElem?_getD, List.getElem?_eq_getElem hi, Option.getD_some]
  exact List.getElem_mem hi
theorem bytes_in {rows : List (List CV)} (h : ∀ r ∈ rows, Okl [.int .u8] r) : ∃ a : List Int, rows = mapR rI_u8 a ∧ ∀ x ∈ a, 0 ≤ x ∧ x ≤ 255 := by
  refine rows_of (f := rI_u8) (rows := rows) (fun r hr => ?_)
  obtain ⟨y0, ys0, rfl, e0, k0⟩ := okcons (h r hr)
  obtain rfl := oknil k0
  obtain ⟨v0, rfl, b0, c0⟩ := okint e0
  exact ⟨v0, rfl, b0, c0⟩
end Go.Proofs.YtihjdodmlddffaaDoor.Fw
namespace Go.Proofs.YtihjdodmlddffaaDoor.Fw
open Go.RowKit
set_option linter.unusedVariables false
set_option linter.unusedSimpArgs false
theorem p_RootOf0 (n : Int) (h : n < 1) : G.i_RootOf n = some 0 := by
  unfold G.i_RootOf
  rw [decide_eq_true h]; rfl
theorem p_RootOf (n : Int) (h1 : 1 ≤ n) (hn : n ≤ 9223372036854775807) : ∃ r, G.i_RootOf n = some r ∧ 1 ≤ r ∧ r ≤ 3037000499 ∧ r * r ≤ n ∧ n < (r + 1) * (r + 1) := by
  have hh := root_loop (R := Int) n h1 hn (G.i_RootOf.s0 n) ?_ ?_
  · obtain ⟨r, h, h2⟩ := hh
    refine ⟨r, ?_, h2⟩
    unfold G.i_RootOf
    rw [decide_eq_false (by omega), cond_false, h]
    rfl
  · intro lo hi g1 g2 g3
    have hm : (lo + hi + 1).tdiv 2 = (lo + hi + 1) / 2 := Int.tdiv_eq_ediv_of_nonneg (by omega)
    have hq := mid_iff (m := (lo + hi + 1) / 2) (n := n) (by omega) (by omega)
    have hq0 : 0 ≤ n.tdiv ((lo + hi + 1) / 2) := Int.tdiv_nonneg (by omega) (by omega)
    have hq1 : n.tdiv ((lo + hi + 1) / 2) ≤ n := by
      rw [Int.tdiv_eq_ediv_of_nonneg (by omega)]
      exact Int.ediv_le_self _ (by omega)
    simp only [G.i_RootOf.s0]
    rw [decide_eq_true g2, cond_true, wrap64 (x := lo + hi) (by omega) (by omega), wrap64 (x := lo + hi + 1) (by omega) (by omega), hm, wrap64 (x := (lo + hi + 1) / 2) (by omega) (by omega), if_neg (by omega), wrap64 (x := n.tdiv ((lo + hi + 1) / 2)) (by omega) (by omega), wrap64 (x := (lo + hi + 1) / 2 - 1) (by omega) (by omega)]
    by_cases c : (lo + hi + 1) / 2 * ((lo + hi + 1) / 2) ≤ n
    · rw [if_pos c, decide_eq_true (hq.2 c)]; rfl
    · rw [if_neg c, decide_eq_false (fun h => c (hq.1 h))]; rfl
  · intro lo hi g
    simp only [G.i_RootOf.s0]
    rw [decide_eq_false g]; rfl
theorem p_nearest (a b : Int) (hb : 1 ≤ b) (hb2 : b ≤ 1000000000000) (ha : -10000000000000 ≤ a) (ha2 : a ≤ 10000000000000) : G.i_nearest a b = some (near a b) := by
  unfold G.i_nearest
  rw [decide_eq_false (by omega), cond_false, wrap64 (x := 0 - b) (by omega) (by omega), wrap64 (x := 0 - a) (by omega) (by omega), show max b (0 - b) = b by omega]
  have key : ∀ A : Int, 0 ≤ A → A ≤ 10000000000000 → ((bif decide (IntKind.wrap .i64 (b - A.tmod b) ≤ A.tmod b) then some (IntKind.wrap .i64 (IntKind.wrap .i64 (A.tdiv b) + 1)) else some (IntKind.wrap .i64 (A.tdiv b))) : Option Int) = some (nearA A b) := by
    intro A h0 h1
    have e1 : A.tmod b = A % b := Int.tmod_eq_emod_of_nonneg h0
    have e2 : A.tdiv b = A / b := Int.tdiv_eq_ediv_of_nonneg h0
    have h2 := Int.emod_nonneg A (show b ≠ 0 by omega)
    have h3 := Int.emod_lt_of_pos A (show 0 < b by omega)
    have h4 : A / b ≤ A := Int.ediv_le_self _ h0
    have h5 : 0 ≤ A / b := Int.ediv_nonneg h0 (by omega)
    rw [e1, e2, wrap64 (x := b - A % b) (by omega) (by omega), wrap64 (x := A / b) (by omega) (by omega), wrap64 (x := A / b + 1) (by omega) (by omega)]
    unfold nearA
    by_cases c : b - A % b ≤ A % b
    · rw [decide_eq_true c, if_pos c, cond_true]
    · rw [decide_eq_false c, if_neg c, cond_false]
  rw [if_neg (by omega), if_neg (by omega), key (max a (0 - a)) (by omega) (by omega), Option.bind_some]
  rw [decide_eq_false (show ¬ b < 0 by omega)]
  have hle : nearA (max a (0 - a)) b ≤ max a (0 - a) := nearA_le (by omega) (by omega) (by
    have := Int.mul_le_mul_of_nonneg_left (a := 1) (b := b) (c := max a (0 - a)) hb (by omega)
    rw [Int.mul_one] at this
    exact this)
  have hge := nearA_nonneg (A := max a (0 - a)) (b := b) (by omega) (by omega)
  unfold near
  by_cases c : a < 0
  · rw [decide_eq_true c, if_pos c, wrap64 (by omega) (by omega), show max a (0 - a) = -a by omega]
    simp
  · rw [decide_eq_false c, if_neg c, show max a (0 - a) = a by omega]
    simp
theorem p_r8At (c : List Int) (hc : bytesOk c) (k n : Int) (hk : 0 ≤ k) (hn : n ≤ 1000000000) : ∃ v, G.l_r8At c k n = some v ∧ 0 ≤ v ∧ v ≤ 255 ∧ (1 ≤ n → v < n) := by
  unfold G.l_r8At
  by_cases c1 : n ≤ 1
  · rw [decide_eq_true c1]
    exact ⟨0, rfl, by omega, by omega, by omega⟩
  · rw [decide_eq_false c1, cond_false, Option.bind_some]
    by_cases c2 : ((c.length : Nat) : Int) ≤ k
    · rw [decide_eq_true c2]
      exact ⟨0, rfl, by omega, by omega, by omega⟩
    · have hb := hc.2 _ (mem_getD (l := c) (i := k.toNat) (by omega))
      rw [decide_eq_false c2, cond_false, if_pos ⟨by omega, by omega⟩, if_neg (by omega), wrap64 (by omega) (by omega)]
      have h1 := Int.tmod_lt_of_pos (c.getD k.toNat default) (show 0 < n by omega)
      have h2 := Int.tmod_nonneg n hb.1
      have h3 : (c.getD k.toNat default).tmod n ≤ c.getD k.toNat default := by
        rw [Int.tmod_eq_emod_of_nonneg hb.1]
        have g1 := Int.mul_ediv_add_emod (c.getD k.toNat default) n
        have g2 := Int.mul_nonneg (show 0 ≤ n by omega) (Int.ediv_nonneg hb.1 (show 0 ≤ n by omega))
        omega
      exact ⟨_, rfl, h2, by omega, fun _ => h1⟩
theorem p_r8Wide (c : List Int) (hc : bytesOk c) (k n : Int) (hk : 0 ≤ k) (hk2 : k ≤ 1000000) (h0 : 1 ≤ n) (hn : n ≤ 1000000000) : ∃ v, G.l_r8Wide c k n = some v ∧ 0 ≤ v ∧ v < n := by
  obtain ⟨a, a1, a2, a3, _⟩ := p_r8At c hc k 256 hk (by omega)
  obtain ⟨b, b1, b2, b3, _⟩ := p_r8At c hc (k + 1) 256 (by omega) (by omega)
  unfold G.l_r8Wide
  rw [a1, Option.bind_some, wrap64 (x := k + 1) (by omega) (by omega), b1, Option.bind_some, if_neg (by omega), wrap64 (x := 256 * a) (by omega) (by omega), wrap64 (x := 256 * a + b) (by omega) (by omega)]
  exact ⟨_, rfl, Int.tmod_nonneg _ (by omega), Int.tmod_lt_of_pos _ (by omega)⟩
end Go.Proofs.YtihjdodmlddffaaDoor.Fw
namespace Go.Proofs.YtihjdodmlddffaaDoor.Fw
open Go.RowKit
set_option linter.unusedVariables false
set_option linter.unusedSimpArgs false
end Go.Proofs.YtihjdodmlddffaaDoor.Fw
namespace Go.Proofs.YtihjdodmlddffaaDoor.Fw
open Go.RowKit
set_option linter.unusedVariables false
set_option linter.unusedSimpArgs false
def chOk (c : Int) : Bool := inR c 97 122 || inR c 48 57
def nameOk (s : ByteArray) : Bool := !(decide (s.size = 0) || decide ((10 : Int) < ((s.size : Nat) : Int))) && (inR (byteAt s 0) 97 122 && (List.range' 0 s.size).all fun i => chOk (byteAt s i))
theorem lt_not (a b : Int) : decide (a < b) = !decide (b ≤ a) := by
  by_cases h : a < b
  · simp [h, Int.not_le.2 h]
  · simp [h, Int.not_lt.1 h]
end Go.Proofs.YtihjdodmlddffaaDoor.Fw
namespace Go.Proofs.YtihjdodmlddffaaDoor.Fw
open Go.RowKit
set_option linter.unusedVariables false
set_option linter.unusedSimpArgs false
/-- Decimal digits, the last one first. -/
def revD (u : Nat) : List Int := if h : u = 0 then [] else (48 + ((u % 10 : Nat) : Int)) :: revD (u / 10)
termination_by u
decreasing_by omega
theorem revD_zero : revD 0 = [] := by unfold revD; simp
theorem revD_pos {u : Nat} (h : u ≠ 0) : revD u = (48 + ((u % 10 : Nat) : Int)) :: revD (u / 10) := by
  rw [revD]; simp [h]
theorem revD_len (u : Nat) : (revD u).length ≤ u := by
  induction u using Nat.strongRecOn with
  | ind u ih =>
    by_cases h : u = 0
    · subst h; simp [revD_zero]
    · rw [revD_pos h, List.length_cons]
      have := ih (u / 10) (by omega)
      omega
def u8 (d : Int) : UInt8 := UInt8.ofNat d.toNat
theorem bytesU_eq (xs : List Int) : bytesU xs = xs.map u8 := rfl
theorem dec_rev (u : Nat) (h : u ≠ 0) : Go.Lib.decDigits u = ((revD u).map u8).reverse := by
  induction u using Nat.strongRecOn with
  | ind u ih =>
    rw [Go.Lib.decDigits, revD_pos h]
    by_cases c : u < 10
    · have h0 : u / 10 = 0 := by omega
      have h1 : u % 10 = u := by omega
      rw [dif_pos c, h0, revD_zero, h1]
      have : (48 + (u : Int)).toNat = 48 + u := by omega
      simp only [List.map_cons, List.map_nil, List.reverse_cons, List.reverse_nil, List.nil_append, u8, this]
    · rw [dif_neg c, ih (u / 10) (by omega) (by omega)]
      simp only [List.map_cons, List.reverse_cons]
      congr 1
theorem dec_len (u : Nat) : (Go.Lib.decDigits u).length ≤ u + 1 := by
  by_cases h : u = 0
  · subst h; rw [Go.Lib.decDigits]; simp
  · rw [dec_rev u h]
    have := revD_len u
    simp only [List.length_reverse, List.length_map]
    omega
theorem itoa_len (n : Int) : (Go.Lib.itoa n).length ≤ n.natAbs + 2 := by
  unfold Go.Lib.itoa
  split
  · have := dec_len n.natAbs; simp only [List.length_cons]; omega
  · have := dec_len n.toNat; omega
end Go.Proofs.YtihjdodmlddffaaDoor.Fw
namespace Go.Proofs.YtihjdodmlddffaaDoor.Fw
open Go.RowKit
set_option linter.unusedVariables false
set_option linter.unusedSimpArgs false
theorem bapp (L M : List UInt8) : (⟨L.toArray⟩ : ByteArray) ++ ⟨M.toArray⟩ = ⟨(L ++ M).toArray⟩ := by
  apply ByteArray.ext
  simp
/-- The numbers' texts with a comma between. -/
def listL (l : List Int) : List UInt8 := Go.Lib.join (l.map Go.Lib.itoa) [44]
theorem listL_one (x : Int) : listL [x] = Go.Lib.itoa x := by simp [listL, Go.Lib.join, List.intercalate]
theorem join_snoc (xs : List (List UInt8)) (y sep : List UInt8) (h : xs ≠ []) : Go.Lib.join (xs ++ [y]) sep = Go.Lib.join xs sep ++ (sep ++ y) := by
  induction xs with
  | nil => exact absurd rfl h
  | cons x xs ih =>
    cases xs with
    | nil => simp [Go.Lib.join, List.intercalate, List.intersperse]
    | cons z zs =>
      have := ih (by simp)
      simp only [Go.Lib.join, List.intercalate, List.cons_append, List.intersperse, List.flatten_cons] at this ⊢
      rw [this]
      simp only [List.append_assoc]
theorem listL_snoc (l : List Int) (y : Int) (h : l ≠ []) : listL (l ++ [y]) = listL l ++ ([44] ++ Go.Lib.itoa y) := by
  unfold listL
  rw [List.map_append]
  exact join_snoc _ _ _ (by simpa using h)
def smallN (l : List Int) : Prop := ∀ i, i < l.length → -1000000000000 ≤ l.getD i default ∧ l.getD i default ≤ 1000000000000
theorem smallN.abs {l : List Int} (h : smallN l) {i : Nat} (hi : i < l.length) : (l.getD i default).natAbs ≤ 1000000000000 := by have := h i hi; omega
theorem take_snocI {l : List Int} {i : Nat} (hi : i < l.length) : l.take i ++ [l.getD i default] = l.take (i + 1) := by
  rw [List.take_succ_eq_append_getElem hi, List.getD_eq_getElem?_getD, List.getElem?_eq_getElem hi, Option.getD_some]
theorem listL_len {l : List Int} (h : smallN l) : ∀ i, i ≤ l.length → (listL (l.take i)).length ≤ i * 1000000000010 := by
  intro i
  induction i with
  | zero => intro _; simp [listL, Go.Lib.join, List.intercalate]
  | succ i ih =>
    intro hi
    have h1 := ih (by omega)
    have h2 := itoa_len (l.getD i default)
    have h3 := h.abs (i := i) (by omega)
    rw [← take_snocI (by omega)]
    by_cases c : l.take i = []
    · rw [c, List.nil_append, listL_one]; omega
    · rw [listL_snoc _ _ c]
      simp only [List.length_append, List.length_cons, List.length_nil]
      omega
theorem take_ne {l : List Int} {i : Nat} (h0 : 0 < i) (hi : i ≤ l.length) : l.take i ≠ [] := by
  intro h
  have := congrArg List.length h
  rw [List.length_take, List.length_nil] at this
  omega
theorem p_ListText (l : List Int) (h : smallN l) (hn : l.length ≤ 64) : G.i_ListText l = some (if l = [] then ⟨#[45]⟩ else ⟨(listL l).toArray⟩) := by
  unfold G.i_ListText
  rw [decide_eq_false (by omega)]
  have h1 := iter_scan (step := G.i_ListText.s0 l) (n := l.length) (p := fun _ => true) (v := ()) (r := (⟨#[]⟩ : ByteArray)) ?_ ?_ l.length 0 (by omega)
  · have h1 : iter (G.i_ListText.s0 l) 0 = some (.inl ()) := by
      have : (List.range' 0 l.length).all (fun _ => true) = true := by simp
      rw [this] at h1
      exact h1
    rw [cond_false, h1]
    simp only [jn, Option.bind_some, Sum.elim_inl]
    by_cases h0 : l = []
    · subst h0; rfl
    · have hl0 : l.length ≠ 0 := by simpa using h0
      rw [decide_eq_false (by omega), cond_false, if_neg h0]
      have h2 := iter_go (step := G.i_ListText.s1 l) (n := l.length) (A := Unit) (g := fun _ => l.map fun n => (⟨(Go.Lib.itoa n).toArray⟩ : ByteArray)) (fun i _ => ((l.take i).map fun n => (⟨(Go.Lib.itoa n).toArray⟩ : ByteArray), (i : Int))) (fun _ _ => True) (fun _ => False) ?_ ?_ l.length 0 () (by omega) trivial
      · rcases h2 with ⟨_, _, h2⟩ | ⟨r, hr, _⟩
        · have h2 : iter (G.i_ListText.s1 l) ([], 0) = _ := h2
          rw [h2]
          have hm : (l.map fun n => (⟨(Go.Lib.itoa n).toArray⟩ : ByteArray)).map (·.data.toList) = l.map Go.Lib.itoa := by simp
          have hj : Go.Lib.join ((l.map fun n => (⟨(Go.Lib.itoa n).toArray⟩ : ByteArray)).map (·.data.toList)) (⟨#[44]⟩ : ByteArray).data.toList = listL l := by rw [hm]; rfl
          have hln := listL_len h l.length (Nat.le_refl _)
          rw [List.take_length] at hln
          simp only [Option.bind_some, Sum.elim_inl, G.strings_Join]
          rw [hj, if_pos ⟨by rw [List.length_map]; omega, by omega⟩]
          rfl
        · exact hr.elim
      · rintro i _ hi _
        have hd : decide ((i : Int) < ((l.length : Nat) : Int)) = true := decide_eq_true (by omega)
        have hw : IntKind.wrap .i64 ((i : Int) + 1) = ((i + 1 : Nat) : Int) := by rw [wrap64 (by omega) (by omega)]; omega
        have hi2 := h i hi
        have hl : (l.take i).length ≤ i := by rw [List.length_take]; omega
        have hdec : G.i_Decimal (l.getD i default) = some ⟨(Go.Lib.itoa (l.getD i default)).toArray⟩ := by
          simp only [G.i_Decimal, G.strconv_FormatInt]
          rw [if_pos (by refine ⟨?_, ?_, ?_⟩ <;> first | trivial | omega)]
          rfl
        refine .inl ⟨(), ?_, trivial⟩
        simp only [G.i_ListText.s1, hd, cond_true, Int.toNat_natCast, hw, hdec, Option.bind_some, List.length_map]
        rw [if_pos ⟨by omega, by omega⟩, if_pos ⟨by omega, by omega⟩, ← take_snocI hi]
        simp only [List.map_append, List.map_cons, List.map_nil]
      · rintro _ _
        have hd : decide (((l.length : Nat) : Int) < ((l.length : Nat) : Int)) = false := by simp
        simp only [G.i_ListText.s1, hd, cond_false, List.take_length]
  · intro i hi
    have hd : decide ((i : Int) < ((l.length : Nat) : Int)) = true := decide_eq_true (by omega)
    have hw : IntKind.wrap .i64 ((i : Int) + 1) = ((i + 1 : Nat) : Int) := by rw [wrap64 (by omega) (by omega)]; omega
    have hi2 := h i hi
    have hin : inR (l.getD i default) (-1000000000000) 1000000000000 = true := by simp only [inR, Bool.and_eq_true, decide_eq_true_eq]; omega
    simp only [G.i_ListText.s0, hd, cond_true, Int.toNat_natCast, hw, p_within, hin, Option.bind_some, if_true]
    rw [if_pos ⟨by omega, by omega⟩]
  · have hd : decide (((l.length : Nat) : Int) < ((l.length : Nat) : Int)) = false := by simp
    simp only [G.i_ListText.s0, hd, cond_false]
end Go.Proofs.YtihjdodmlddffaaDoor.Fw
namespace Go.Proofs.YtihjdodmlddffaaDoor.Fw
open Go.RowKit
set_option linter.unusedVariables false
set_option linter.unusedSimpArgs false
/-- The first part gets something in front. -/
def preF (p : List UInt8) : List (List UInt8) → List (List UInt8)
  | [] => [p]
  | q :: qs => (p ++ q) :: qs
/-- The parts between the bytes c. -/
def spl (c : UInt8) : List UInt8 → List (List UInt8)
  | [] => [[]]
  | x :: xs => if x = c then [] :: spl c xs else preF [x] (spl c xs)
theorem spl_ne (c : UInt8) (l : List UInt8) : spl c l ≠ [] := by
  cases l with
  | nil => simp [spl]
  | cons x xs =>
    unfold spl
    split
    · simp
    · cases spl c xs <;> simp [preF]
theorem preF_nil {L : List (List UInt8)} (h : L ≠ []) : preF [] L = L := by
  cases L with
  | nil => exact absurd rfl h
  | cons q qs => simp [preF]
theorem preF_preF (p q : List UInt8) (L : List (List UInt8)) (h : L ≠ []) : preF p (preF q L) = preF (p ++ q) L := by
  cases L with
  | nil => exact absurd rfl h
  | cons r rs => simp [preF]
theorem splitK_spl (c : UInt8) (l : List UInt8) : Go.Lib.splitK [c] 0 (l.count c) l = spl c l := by
  induction l with
  | nil => rfl
  | cons x xs ih =>
    by_cases h : x = c
    · subst h
      have hidx : Go.Lib.index (x :: xs) [x] = 0 := by simp [Go.Lib.index]
      rw [List.count_cons_self, Go.Lib.splitK, hidx]
      simp only [spl, if_true]
      rw [← ih]
      simp
    · have hne : ¬ [c].isPrefixOf (x :: xs) = true := by simp [Ne.symm h]
      rw [List.count_cons_of_ne h]
      simp only [spl, if_neg h]
      rw [← ih]
      cases hk : xs.count c with
      | zero => simp [Go.Lib.splitK, preF]
      | succ k =>
        have hi : Go.Lib.index (x :: xs) [c] = if (Go.Lib.index xs [c] == -1) = true then -1 else Go.Lib.index xs [c] + 1 := by
          rw [Go.Lib.index, if_neg hne]
        by_cases h1 : Go.Lib.index xs [c] = -1
        · simp [Go.Lib.splitK, hi, h1, preF]
        · have h2 : 0 ≤ Go.Lib.index xs [c] := by
            have := Go.Lib.index_ge xs [c]
            omega
          have h3 : (Go.Lib.index xs [c] + 1).toNat = (Go.Lib.index xs [c]).toNat + 1 := by omega
          have h4 : ¬ Go.Lib.index xs [c] + 1 = -1 := by omega
          simp [Go.Lib.splitK, hi, h1, h3, h4, preF]
end Go.Proofs.YtihjdodmlddffaaDoor.Fw
namespace Go.Proofs.YtihjdodmlddffaaDoor.Fw
open Go.RowKit
set_option linter.unusedVariables false
set_option linter.unusedSimpArgs false
theorem extr_data (s : ByteArray) (a b : Nat) : (s.extract a b).data.toList = (s.data.toList.drop a).take (b - a) := Go.Lib.extract_data s a b
theorem size_data (s : ByteArray) : s.size = s.data.toList.length := by
  show s.data.size = _
  exact Array.length_toList.symm
theorem toNat_inj {a b : UInt8} : ((a.toNat : Int) = (b.toNat : Int)) ↔ a = b := by
  constructor
  · intro h
    exact UInt8.toNat_inj.1 (by omega)
  · rintro rfl; rfl
theorem p_Split (s : ByteArray) (c : UInt8) (hs : s.size ≤ 1000000000) : ∃ L : List ByteArray, G.strings_Split s ⟨#[c]⟩ = some L ∧ L.map (·.data.toList) = spl c s.data.toList := by
  refine ⟨extSplit s ⟨#[c]⟩, ?_, ?_⟩
  · unfold G.strings_Split
    have h1 : (⟨#[c]⟩ : ByteArray).size = 1 := rfl
    rw [if_pos ⟨by omega, by omega⟩]
  · unfold extSplit
    rw [Go.Lib.splitB_data]
    show Go.Lib.splitK [c] 0 (Go.Lib.countB s ⟨#[c]⟩) s.data.toList = _
    rw [← splitK_spl]
    congr 1
    exact Go.Lib.count_one c _
theorem eq_of_data {L M : List ByteArray} (h : L.map (·.data.toList) = M.map (·.data.toList)) : L = M := by
  have inj : ∀ a b : ByteArray, a.data.toList = b.data.toList → a = b := fun a b h => ByteArray.ext (Array.toList_inj.1 h)
  induction L generalizing M with
  | nil => cases M with
    | nil => rfl
    | cons m ms => simp at h
  | cons l ls ih => cases M with
    | nil => simp at h
    | cons m ms =>
      simp only [List.map_cons, List.cons.injEq] at h
      rw [inj _ _ h.1, ih h.2]
end Go.Proofs.YtihjdodmlddffaaDoor.Fw
namespace Go.Proofs.YtihjdodmlddffaaDoor.Fw
open Go.RowKit
set_option linter.unusedVariables false
set_option linter.unusedSimpArgs false
def isDg (b : UInt8) : Bool := decide (48 ≤ b.toNat) && decide (b.toNat ≤ 57)
def valF (n : Nat) (l : List UInt8) : Nat := l.foldl (fun n b => 10 * n + (b.toNat - 48)) n
def valD (l : List UInt8) : Nat := valF 0 l
theorem iter_digits {step : Int × Int → Option ((Int × Int) ⊕ (Int ⊕ (Int × Bool)))} (l : List UInt8) (off : Nat) (hlen : l.length ≤ 18)
    (hs : ∀ (i n : Nat) (hi : i < l.length), n < 100000000000000000 → step ((n : Int), ((off + i : Nat) : Int)) = if isDg l[i] then some (.inl (((10 * n + (l[i].toNat - 48) : Nat) : Int), ((off + (i + 1) : Nat) : Int))) else some (.inr (.inr (0, false))))
    (he : ∀ n : Int, step (n, ((off + l.length : Nat) : Int)) = some (.inr (.inl n))) :
    iter step ((0 : Int), (off : Int)) = some (if l.all isDg then .inl ((valD l : Nat) : Int) else .inr (0, false)) := by
  have key : ∀ (m k n : Nat), k + m = l.length → n < 10 ^ k → iter step ((n : Int), ((off + k : Nat) : Int)) = some (if (l.drop k).all isDg then .inl ((valF n (l.drop k) : Nat) : Int) else .inr (0, false)) := by
    intro m
    induction m with
    | zero =>
      intro k n hk hn
      have : k = l.length := by omega
      subst this
      rw [iter_inr (r := .inl (n : Int)) (he _), List.drop_length]
      simp [valF]
    | succ m ih =>
      intro k n hk hn
      have hi : k < l.length := by omega
      have hp : 10 ^ k ≤ 10 ^ 17 := Nat.pow_le_pow_right (by omega) (by omega)
      have hb : n < 100000000000000000 := Nat.lt_of_lt_of_le hn (by simpa using hp)
      have h := hs k n hi hb
      have hd : l.drop k = l[k] :: l.drop (k + 1) := (List.getElem_cons_drop ..).symm
      rw [hd, List.all_cons]
      by_cases c : isDg l[k] = true
      · rw [if_pos c] at h
        rw [iter_inl h, ih (k + 1) _ (by omega) ?_, c, Bool.true_and]
        · rfl
        · have : l[k].toNat ≤ 57 := by
            unfold isDg at c
            simp only [Bool.and_eq_true, decide_eq_true_eq] at c
            exact c.2
          rw [Nat.pow_succ]; omega
      · rw [if_neg c] at h
        rw [iter_inr (r := .inr ((0 : Int), false)) h]
        simp only [Bool.not_eq_true] at c
        simp [c]
  have := key l.length 0 0 (by omega) (by simp)
  simpa [valD] using this
/-- What reading a number comes to. -/
def numD (neg : Bool) (D : List UInt8) : Int × Bool :=
  if D.length = 0 ∨ 18 < D.length ∨ (D.head? = some 48 ∧ 1 < (if neg then 1 else 0) + D.length) ∨ D.all isDg = false then (0, false) else ((if neg then -((valD D : Nat) : Int) else ((valD D : Nat) : Int)), true)
def isNeg (s : ByteArray) : Bool := decide (s.data.toList.head? = some 45)
def numR (s : ByteArray) : Int × Bool := numD (isNeg s) (s.data.toList.drop (if isNeg s then 1 else 0))
theorem byteAt_get (s : ByteArray) (i : Nat) (h : i < s.data.toList.length) : byteAt s i = ((s.data.toList[i]).toNat : Int) := by
  unfold byteAt
  rw [List.getD_eq_getElem?_getD, List.getElem?_eq_getElem h, Option.getD_some]
theorem isNeg_iff (s : ByteArray) (h : 0 < s.size) : isNeg s = decide (byteAt s 0 = 45) := by
  rw [size_data] at h
  unfold isNeg
  rw [byteAt_get s 0 h, List.head?_eq_getElem?, List.getElem?_eq_getElem h]
  congr 1
  rw [eq_iff_iff]
  constructor
  · intro h
    rw [Option.some.inj h]; rfl
  · intro h
    exact congrArg some (toNat_inj.1 h)
theorem isNeg_len {s : ByteArray} (h : isNeg s = true) : 1 ≤ s.size := by
  rw [size_data]
  unfold isNeg at h
  cases hl : s.data.toList with
  | nil => rw [hl] at h; simp at h
  | cons a b => simp
theorem isDg_lo {b : UInt8} (h : isDg b = true) : 48 ≤ b.toNat ∧ b.toNat ≤ 57 := by
  unfold isDg at h
  simpa using h
theorem wrapU8 {n : Int} (h0 : 0 ≤ n) (h1 : n < 256) : IntKind.wrap .u8 n = n := by
  show n % 256 = n
  omega
theorem valF_lt : ∀ (l : List UInt8) (n k : Nat), l.all isDg = true → n < 10 ^ k → valF n l < 10 ^ (k + l.length) := by
  intro l
  induction l with
  | nil => intro n k _ h; simpa [valF] using h
  | cons b l ih =>
    intro n k ha h
    rw [List.all_cons, Bool.and_eq_true] at ha
    have h1 := isDg_lo ha.1
    have := ih (10 * n + (b.toNat - 48)) (k + 1) ha.2 (by rw [Nat.pow_succ]; omega)
    rw [List.length_cons, show k + (l.length + 1) = k + 1 + l.length by omega]
    exact this
theorem valD_le {l : List UInt8} (h : l.all isDg = true) (hl : l.length ≤ 18) : ((valD l : Nat) : Int) ≤ 1000000000000000000 := by
  have h1 := valF_lt l 0 0 h (by simp)
  have h2 : 10 ^ (0 + l.length) ≤ 10 ^ 18 := Nat.pow_le_pow_right (by omega) (by omega)
  have h3 : valD l < 1000000000000000000 := Nat.lt_of_lt_of_le h1 (by simpa using h2)
  omega
theorem dg_in (b : UInt8) : inR ((b.toNat : Nat) : Int) 48 57 = isDg b := by
  unfold inR isDg
  congr 1
  · rw [decide_eq_decide]; omega
  · rw [decide_eq_decide]; omega
theorem dg_add (n : Nat) (b : UInt8) (hn : n < 100000000000000000) (hb : isDg b = true) : IntKind.wrap .i64 ((IntKind.wrap .i64 ((10 : Int) * (n : Int))) + (IntKind.wrap .i64 (IntKind.wrap .u8 (((b.toNat : Nat) : Int) - (48 : Int))))) = ((10 * n + (b.toNat - 48) : Nat) : Int) := by
  have h := isDg_lo hb
  have w1 : IntKind.wrap .u8 (((b.toNat : Nat) : Int) - (48 : Int)) = ((b.toNat : Nat) : Int) - 48 := wrapU8 (by omega) (by omega)
  have w2 : IntKind.wrap .i64 (((b.toNat : Nat) : Int) - (48 : Int)) = ((b.toNat : Nat) : Int) - 48 := wrap64 (by omega) (by omega)
  have w3 : IntKind.wrap .i64 ((10 : Int) * (n : Int)) = 10 * (n : Int) := wrap64 (by omega) (by omega)
  rw [w1, w2, w3, wrap64 (by omega) (by omega)]
  omega
/-- Decimal digits and values. -/
theorem valF_append (n : Nat) (l m : List UInt8) : valF n (l ++ m) = valF (valF n l) m := by unfold valF; rw [List.foldl_append]
theorem valF_one (n : Nat) (b : UInt8) : valF n [b] = 10 * n + (b.toNat - 48) := rfl
theorem dec_step (u d : Nat) (hu : u ≠ 0) (hd : d < 10) : Go.Lib.decDigits (10 * u + d) = Go.Lib.decDigits u ++ [UInt8.ofNat (48 + d)] := by
  rw [Go.Lib.decDigits, dif_neg (by omega)]
  have h1 : (10 * u + d) / 10 = u := by omega
  have h2 : (10 * u + d) % 10 = d := by omega
  rw [h1, h2]
theorem ofNat_dg {b : UInt8} (h : isDg b = true) : UInt8.ofNat (48 + (b.toNat - 48)) = b := by
  have := isDg_lo h
  rw [show 48 + (b.toNat - 48) = b.toNat by omega]
  exact UInt8.ofNat_toNat
theorem valF_ge (n : Nat) (l : List UInt8) : n ≤ valF n l := by
  induction l generalizing n with
  | nil => exact Nat.le_refl _
  | cons b l ih =>
    have := ih (10 * n + (b.toNat - 48))
    show n ≤ valF (10 * n + (b.toNat - 48)) l
    omega
theorem dec_valF (l : List UInt8) : ∀ n : Nat, n ≠ 0 → l.all isDg = true → Go.Lib.decDigits (valF n l) = Go.Lib.decDigits n ++ l := by
  induction l with
  | nil => intro n _ _; simp [valF]
  | cons b l ih =>
    intro n hn ha
    rw [List.all_cons, Bool.and_eq_true] at ha
    have hb := isDg_lo ha.1
    show Go.Lib.decDigits (valF (10 * n + (b.toNat - 48)) l) = _
    rw [ih _ (by omega) ha.2, dec_step n _ hn (by omega), ofNat_dg ha.1, List.append_assoc]
    rfl
theorem dec_valD (b : UInt8) (l : List UInt8) (ha : (b :: l).all isDg = true) (hb : b ≠ 48) : valD (b :: l) ≠ 0 ∧ Go.Lib.decDigits (valD (b :: l)) = b :: l := by
  rw [List.all_cons, Bool.and_eq_true] at ha
  have h1 := isDg_lo ha.1
  have h2 : b.toNat ≠ 48 := fun h => hb (UInt8.toNat_inj.1 h)
  have hv : valD (b :: l) = valF (b.toNat - 48) l := by
    show valF (10 * 0 + (b.toNat - 48)) l = _
    rw [Nat.mul_zero, Nat.zero_add]
  have hge := valF_ge (b.toNat - 48) l
  refine ⟨by omega, ?_⟩
  rw [hv, dec_valF l _ (by omega) ha.2, Go.Lib.decDigits, dif_pos (by omega), ofNat_dg ha.1]
  rfl
theorem dec_head (u : Nat) (h : u ≠ 0) : (Go.Lib.decDigits u).head? ≠ some 48 := by
  induction u using Nat.strongRecOn with
  | ind u ih =>
    rw [Go.Lib.decDigits]
    by_cases c : u < 10
    · rw [dif_pos c]
      intro e
      have e : UInt8.ofNat (48 + u) = 48 := Option.some.inj e
      have := congrArg UInt8.toNat e
      rw [UInt8.toNat_ofNat_of_lt' (by show 48 + u < 256; omega)] at this
      have : 48 + u = 48 := this
      omega
    · rw [dif_neg c]
      have := ih (u / 10) (by omega) (by omega)
      cases hd : Go.Lib.decDigits (u / 10) with
      | nil =>
        have hl := Go.Lib.decDigits_length (u / 10)
        rw [Go.Lib.decDigits] at hd
        split at hd <;> simp at hd
      | cons x xs =>
        rw [hd] at this
        simpa using this
theorem dec_zero : Go.Lib.decDigits 0 = [48] := by rw [Go.Lib.decDigits, dif_pos (by omega)]; rfl
/-- A text of digits is what its number is told as, where it does not begin with a nought. -/
theorem itoa_num (neg : Bool) (b : UInt8) (l : List UInt8) (ha : (b :: l).all isDg = true) :
    Go.Lib.itoa (if neg then -((valD (b :: l) : Nat) : Int) else ((valD (b :: l) : Nat) : Int)) = (if neg then [45] else []) ++ (b :: l) ↔ ¬ (b = 48 ∧ 1 < (if neg then 1 else 0) + (b :: l).length) := by
  by_cases hb : b = 48
  · subst hb
    have hv : valD (48 :: l) = valF 0 l := rfl
    cases neg with
    | false =>
      simp only [Bool.false_eq_true, if_false, List.nil_append, Go.Lib.itoa_nonneg, List.length_cons, true_and]
      by_cases hl : l = []
      · subst hl
        have : valD [48] = 0 := rfl
        rw [this, dec_zero]
        simp
      · have h1 : 0 < l.length := List.length_pos_iff.2 hl
        refine ⟨fun e => ?_, fun e => absurd (by omega) e⟩
        by_cases h0 : valD (48 :: l) = 0
        · rw [h0, dec_zero] at e
          have := congrArg List.length e
          simp only [List.length_cons, List.length_nil] at this
          omega
        · exact absurd (by rw [e]; rfl) (dec_head _ h0)
    | true =>
      simp only [if_true, List.cons_append, List.nil_append, List.length_cons, true_and]
      refine ⟨fun e => ?_, fun e => absurd (by omega) e⟩
      by_cases h0 : valD (48 :: l) = 0
      · rw [h0] at e
        have : Go.Lib.itoa (-((0 : Nat) : Int)) = [48] := by
          show Go.Lib.itoa (0 : Int) = _
          rw [show (0 : Int) = ((0 : Nat) : Int) from rfl, Go.Lib.itoa_nonneg, dec_zero]
        rw [this] at e
        simp at e
      · rw [Go.Lib.itoa_neg _ (by omega)] at e
        have e : Go.Lib.decDigits (valD (48 :: l)) = 48 :: l := (List.cons.inj e).2
        exact absurd (by rw [e]; rfl) (dec_head _ h0)
  · obtain ⟨h1, h2⟩ := dec_valD b l ha hb
    refine ⟨fun _ h => hb h.1, fun _ => ?_⟩
    cases neg with
    | false =>
      simp only [Bool.false_eq_true, if_false, List.nil_append, Go.Lib.itoa_nonneg]
      exact h2
    | true =>
      simp only [if_true, List.cons_append, List.nil_append]
      rw [Go.Lib.itoa_neg _ (by omega), h2]
end Go.Proofs.YtihjdodmlddffaaDoor.Fw
namespace Go.Proofs.YtihjdodmlddffaaDoor.Fw
open Go.RowKit
set_option linter.unusedVariables false
set_option linter.unusedSimpArgs false
theorem p_HasPrefix (s : ByteArray) (hs : s.size ≤ 1000000000) : G.strings_HasPrefix s ⟨#[45]⟩ = some (isNeg s) := by
  have hsz := size_data s
  unfold G.strings_HasPrefix G.internal_stringslite_HasPrefix
  have h1 : (⟨#[45]⟩ : ByteArray).size = 1 := rfl
  rw [h1]
  by_cases c : 1 ≤ s.size
  · rw [decide_eq_true (by omega), cond_true, if_pos ⟨by omega, by omega⟩]
    simp only [Option.bind_some]
    congr 1
    unfold isNeg
    rw [decide_eq_decide]
    have hd : (s.extract 0 1).data.toList = s.data.toList.take 1 := by rw [extr_data]; rfl
    constructor
    · intro e
      rw [e] at hd
      cases hl : s.data.toList with
      | nil =>
        rw [hl] at hsz
        have : s.size = 0 := hsz
        omega
      | cons a b => rw [hl] at hd; simp at hd; simp [hd]
    · intro e
      cases hl : s.data.toList with
      | nil => rw [hl] at e; simp at e
      | cons a b =>
        rw [hl] at hd e
        simp at e
        subst e
        apply ByteArray.ext
        apply Array.toList_inj.1
        rw [hd]
        rfl
  · rw [decide_eq_false (by omega), cond_false]
    simp only [Option.bind_some]
    cases h : isNeg s
    · rfl
    · have := isNeg_len h; omega
theorem p_ReadDecimal (s : ByteArray) (hs : s.size ≤ 1000000000) : G.i_ReadDecimal s = some (numR s) := by
  have hsz := size_data s
  unfold G.i_ReadDecimal
  rw [p_HasPrefix s hs]
  simp only [Option.bind_some]
  have hq : ∃ q : ByteArray, (bif isNeg s then (if 0 ≤ (1 : Int) ∧ (1 : Int) ≤ ((s.size : Nat) : Int) then (some (s.extract 1 s.size)) else none) else (some s)) = some q ∧ q.data.toList = s.data.toList.drop (if isNeg s then 1 else 0) ∧ q.size = s.size - (if isNeg s then 1 else 0) ∧ (if isNeg s then 1 else 0) ≤ s.size := by
    cases h : isNeg s
    · exact ⟨s, rfl, rfl, rfl, Nat.zero_le _⟩
    · have := isNeg_len h
      refine ⟨s.extract 1 s.size, ?_, ?_, ?_, this⟩
      · rw [cond_true, if_pos ⟨by omega, by omega⟩]
      · rw [extr_data, if_pos rfl, List.take_of_length_le (by rw [List.length_drop]; omega)]
      · rw [size_data, extr_data, List.length_take, List.length_drop, if_pos rfl]; omega
  obtain ⟨q, e1, e2, e3, e4⟩ := hq
  rw [e1]
  simp only [Option.bind_some]
  unfold numR numD
  have hD : ((s.data.toList.drop (if isNeg s then 1 else 0))).length = q.size := by rw [← e2, size_data]
  rw [hD, ← e2]
  by_cases c1 : q.size = 0
  · rw [decide_eq_true (by omega), cond_true]
    simp only [Option.bind_some, cond_true]
    rw [if_pos (.inl c1)]
  · rw [decide_eq_false (by omega), cond_false]
    simp only [Option.bind_some]
    by_cases c2 : 18 < q.size
    · rw [decide_eq_true (by omega), cond_true, if_pos (.inr (.inl c2))]
    · rw [decide_eq_false (by omega), cond_false]
      have hql := size_data q
      have hit := iter_digits (step := G.i_ReadDecimal.s0 q) q.data.toList 0 (by omega) ?_ ?_
      · have hit : iter (G.i_ReadDecimal.s0 q) ((0 : Int), (0 : Int)) = _ := hit
        rw [hit]
        cases c4 : q.data.toList.all isDg
        · rw [if_neg (show ¬ (false = true) by decide), if_pos (Or.inr (Or.inr (Or.inr rfl)))]
          rfl
        · have hb : (valD q.data.toList : Int) ≤ 1000000000000000000 := valD_le c4 (by omega)
          rw [if_pos (rfl : true = true)]
          simp only [jn, Option.bind_some, Sum.elim_inl]
          have hn : (bif (decide (((q.size : Nat) : Int) < ((s.size : Nat) : Int))) then (some (IntKind.wrap .i64 (0 - ((valD q.data.toList : Nat) : Int)))) else (some ((valD q.data.toList : Nat) : Int))) = some (if isNeg s then -((valD q.data.toList : Nat) : Int) else ((valD q.data.toList : Nat) : Int)) := by
            cases h : isNeg s
            · rw [h] at e3
              rw [decide_eq_false (by simp at e3; omega)]
              rfl
            · rw [h] at e3 e4
              rw [decide_eq_true (by simp at e3 e4; omega), cond_true, wrap64 (by omega) (by omega)]
              simp
          rw [hn]
          simp only [Option.bind_some]
          obtain ⟨b, l, hbl⟩ : ∃ b l, q.data.toList = b :: l := by
            cases h : q.data.toList with
            | nil =>
              rw [h] at hql
              have : q.size = 0 := hql
              omega
            | cons b l => exact ⟨b, l, rfl⟩
          have key := itoa_num (isNeg s) b l (by rw [← hbl]; exact c4)
          have hsd : s.data.toList = (if isNeg s then [45] else []) ++ (b :: l) := by
            rw [← hbl, e2]
            cases h : isNeg s
            · rfl
            · unfold isNeg at h
              have h := of_decide_eq_true h
              cases hl : s.data.toList with
              | nil => rw [hl] at h; simp at h
              | cons x xs => rw [hl] at h; simp at h; simp [h]
          have hlen : (if isNeg s then 1 else 0) + (b :: l).length = (if isNeg s then 1 else 0) + q.size := by rw [← hbl, hql]
          rw [hlen] at key
          have hdec : G.i_Decimal (if isNeg s then -((valD q.data.toList : Nat) : Int) else ((valD q.data.toList : Nat) : Int)) = some (⟨(Go.Lib.itoa (if isNeg s then -((valD q.data.toList : Nat) : Int) else ((valD q.data.toList : Nat) : Int))).toArray⟩ : ByteArray) := by
            unfold G.i_Decimal G.strconv_FormatInt
            rw [if_pos]
            · rfl
            · refine ⟨rfl, ?_⟩
              have : ∀ (x : Int) (b : Bool), 0 ≤ x → x ≤ 1000000000000000000 → -9223372036854775808 ≤ (if b = true then -x else x) ∧ (if b = true then -x else x) ≤ 9223372036854775807 := by
                intro x b h0 h1
                cases b <;> simp <;> omega
              exact this _ _ (by omega) hb
          rw [hdec]
          simp only [Option.bind_some]
          have hbeq : ((⟨(Go.Lib.itoa (if isNeg s then -((valD q.data.toList : Nat) : Int) else ((valD q.data.toList : Nat) : Int))).toArray⟩ : ByteArray) = s) ↔ Go.Lib.itoa (if isNeg s then -((valD (b :: l) : Nat) : Int) else ((valD (b :: l) : Nat) : Int)) = (if isNeg s then [45] else []) ++ (b :: l) := by
            rw [← hsd, ← hbl]
            constructor
            · intro e
              simpa using congrArg (fun z => z.data.toList) e
            · intro e
              apply ByteArray.ext
              apply Array.toList_inj.1
              simpa using e
          by_cases ce : b = 48 ∧ 1 < (if isNeg s then 1 else 0) + q.size
          · rw [decide_eq_false (fun x => (key.1 (hbeq.1 x)) ce), cond_false, if_pos (.inr (.inr (.inl ⟨by rw [hbl, ce.1]; rfl, ce.2⟩)))]
          · have hno : ¬ (q.size = 0 ∨ 18 < q.size ∨ (q.data.toList.head? = some 48 ∧ 1 < (if isNeg s = true then 1 else 0) + q.size) ∨ true = false) := by
              rintro (a | a | a | a)
              · omega
              · omega
              · rw [hbl] at a
                exact ce ⟨Option.some.inj a.1, a.2⟩
              · exact absurd a (by decide)
            rw [decide_eq_true (hbeq.2 (key.2 ce)), cond_true, if_neg hno]
      · intro i n hi hn
        simp only [G.i_ReadDecimal.s0, Int.toNat_natCast, Nat.zero_add]
        have w : IntKind.wrap .i64 ((i : Int) + 1) = ((i + 1 : Nat) : Int) := by rw [wrap64 (by omega) (by omega)]; omega
        rw [decide_eq_true (by omega), cond_true, if_pos ⟨by omega, by omega⟩, byteAt_get q i hi, w]
        cases c : isDg (q.data.toList[i])
        · rw [if_neg (show ¬ (false = true) by decide)]
          by_cases c5 : ((q.data.toList[i]).toNat : Int) < 48
          · rw [decide_eq_true c5]
            rfl
          · have c6 : (57 : Int) < ((q.data.toList[i]).toNat : Int) := by
              rw [← dg_in] at c
              unfold inR at c
              simp only [Bool.and_eq_false_iff, decide_eq_false_iff_not] at c
              omega
            rw [decide_eq_false c5, cond_false, if_pos ⟨by omega, by omega⟩, decide_eq_true c6]
            rfl
        · have hc := isDg_lo c
          have da := dg_add n _ hn c
          rw [Int.mul_comm 10] at da
          rw [if_pos (rfl : true = true), decide_eq_false (by omega), cond_false, if_pos ⟨by omega, by omega⟩, decide_eq_false (by omega)]
          simp only [Option.bind_some, cond_false]
          rw [if_pos ⟨by omega, by omega⟩, da]
      · intro n
        simp only [G.i_ReadDecimal.s0, Nat.zero_add]
        rw [decide_eq_false (by omega), cond_false]
end Go.Proofs.YtihjdodmlddffaaDoor.Fw
namespace Go.Proofs.YtihjdodmlddffaaDoor.Fw
open Go.RowKit
set_option linter.unusedVariables false
set_option linter.unusedSimpArgs false
theorem isDg_of {d : Nat} (h : d < 10) : isDg (UInt8.ofNat (48 + d)) = true ∧ (UInt8.ofNat (48 + d)).toNat = 48 + d := by
  have e : (UInt8.ofNat (48 + d)).toNat = 48 + d := UInt8.toNat_ofNat_of_lt' (by show 48 + d < 256; omega)
  exact ⟨by unfold isDg; rw [e]; simp; omega, e⟩
theorem dec_spec (u : Nat) : (Go.Lib.decDigits u).all isDg = true ∧ valD (Go.Lib.decDigits u) = u ∧ Go.Lib.decDigits u ≠ [] := by
  induction u using Nat.strongRecOn with
  | ind u ih =>
    rw [Go.Lib.decDigits]
    by_cases c : u < 10
    · rw [dif_pos c]
      obtain ⟨h1, h2⟩ := isDg_of c
      refine ⟨by rw [List.all_cons, h1]; rfl, ?_, by simp⟩
      show 10 * 0 + ((UInt8.ofNat (48 + u)).toNat - 48) = u
      rw [h2]; omega
    · rw [dif_neg c]
      obtain ⟨h1, h2⟩ := isDg_of (d := u % 10) (by omega)
      obtain ⟨g1, g2, g3⟩ := ih (u / 10) (by omega)
      refine ⟨by rw [List.all_append, g1, List.all_cons, h1]; rfl, ?_, by simp⟩
      unfold valD at g2 ⊢
      rw [valF_append, g2, valF_one, h2]
      omega
theorem dec_short (k : Nat) : ∀ u : Nat, u < 10 ^ (k + 1) → (Go.Lib.decDigits u).length ≤ k + 1 := by
  induction k with
  | zero =>
    intro u hu
    rw [Go.Lib.decDigits, dif_pos (by omega)]
    simp
  | succ k ih =>
    intro u hu
    rw [Go.Lib.decDigits]
    by_cases c : u < 10
    · rw [dif_pos c]; simp
    · rw [dif_neg c, List.length_append]
      have := ih (u / 10) (by rw [Nat.pow_succ] at hu; omega)
      simp only [List.length_cons, List.length_nil]
      omega
theorem dg_ne {b : UInt8} (h : isDg b = true) : b ≠ 45 ∧ b ≠ 44 ∧ b ≠ 47 := by
  have := isDg_lo h
  refine ⟨?_, ?_, ?_⟩ <;> (rintro rfl; revert this; decide)
theorem dec_free (u : Nat) {c : UInt8} (hc : c = 44 ∨ c = 47 ∨ c = 45) : c ∉ Go.Lib.decDigits u := fun h => by
  have := dg_ne (List.all_eq_true.1 (dec_spec u).1 c h)
  rcases hc with rfl | rfl | rfl
  · exact this.2.1 rfl
  · exact this.2.2 rfl
  · exact this.1 rfl
theorem itoa_cases (n : Int) : (∃ u : Nat, n = (u : Int) ∧ Go.Lib.itoa n = Go.Lib.decDigits u) ∨ ∃ u : Nat, 1 ≤ u ∧ n = -(u : Int) ∧ Go.Lib.itoa n = 45 :: Go.Lib.decDigits u := by
  by_cases h : 0 ≤ n
  · exact .inl ⟨n.toNat, by omega, by rw [show n = ((n.toNat : Nat) : Int) by omega, Go.Lib.itoa_nonneg]; rfl⟩
  · have h1 := Go.Lib.itoa_neg (-n).toNat (by omega)
    have h2 : -(((-n).toNat : Nat) : Int) = n := by omega
    rw [h2] at h1
    exact .inr ⟨(-n).toNat, by omega, by omega, h1⟩
theorem itoa_free (n : Int) {c : UInt8} (hc : c = 44 ∨ c = 47) : c ∉ Go.Lib.itoa n := fun h => by
  rcases itoa_cases n with ⟨u, _, e⟩ | ⟨u, _, _, e⟩
  · rw [e] at h
    exact dec_free u (by rcases hc with h | h <;> simp [h]) h
  · rw [e] at h
    rcases List.mem_cons.1 h with h | h
    · rcases hc with rfl | rfl <;> exact absurd h (by decide)
    · exact dec_free u (by rcases hc with h | h <;> simp [h]) h
theorem itoa_short (n : Int) (h : n.natAbs < 1000000000000000000) : (Go.Lib.itoa n).length ≤ 19 := by
  rcases itoa_cases n with ⟨u, rfl, e⟩ | ⟨u, _, rfl, e⟩
  · have := dec_short 17 u (by omega)
    rw [e]; omega
  · have := dec_short 17 u (by omega)
    rw [e, List.length_cons]; omega
/-- A number is read back. -/
theorem numR_itoa (n : Int) (h : n.natAbs < 1000000000000000000) : numR ⟨(Go.Lib.itoa n).toArray⟩ = (n, true) := by
  have key : ∀ (neg : Bool) (u : Nat), u < 1000000000000000000 → (neg = true → u ≠ 0) → numD neg (Go.Lib.decDigits u) = ((if neg then -(u : Int) else (u : Int)), true) := by
    intro neg u hu hn
    obtain ⟨g1, g2, g3⟩ := dec_spec u
    have hl := dec_short 17 u (by omega)
    have h0 : 0 < (Go.Lib.decDigits u).length := List.length_pos_iff.2 g3
    unfold numD
    rw [if_neg, g2]
    rintro (e | e | ⟨e1, e2⟩ | e)
    · omega
    · omega
    · by_cases hu0 : u = 0
      · subst hu0
        cases neg
        · rw [dec_zero] at e2
          simp at e2
        · exact absurd rfl (hn rfl)
      · exact dec_head u hu0 e1
    · rw [g1] at e; cases e
  unfold numR isNeg
  simp only []
  rcases itoa_cases n with ⟨u, rfl, e⟩ | ⟨u, hu, rfl, e⟩
  · rw [e]
    have hh : decide ((Go.Lib.decDigits u).head? = some 45) = false := by
      rw [decide_eq_false_iff_not]
      intro hd
      exact dec_free u (.inr (.inr rfl)) (List.mem_of_mem_head? (by rw [hd]; rfl))
    simp only [List.toList_toArray, hh, Bool.false_eq_true, if_false, List.drop_zero]
    rw [key false u (by omega) (by simp)]
    simp
  · rw [e]
    simp only [List.toList_toArray, List.head?_cons, decide_true, if_true, List.drop_succ_cons, List.drop_zero]
    rw [key true u (by omega) (fun _ => by omega)]
    simp
theorem spl_free (c : UInt8) (x : List UInt8) (h : c ∉ x) : spl c x = [x] := by
  induction x with
  | nil => rfl
  | cons a x ih =>
    have h1 : a ≠ c := fun e => h (by rw [e]; exact List.mem_cons_self ..)
    rw [spl, if_neg h1, ih fun h2 => h (List.mem_cons_of_mem _ h2)]
    rfl
theorem spl_app (c : UInt8) (x r : List UInt8) (h : c ∉ x) : spl c (x ++ c :: r) = x :: spl c r := by
  induction x with
  | nil => rw [List.nil_append, spl, if_pos rfl]
  | cons a x ih =>
    have h1 : a ≠ c := fun e => h (by rw [e]; exact List.mem_cons_self ..)
    rw [List.cons_append, spl, if_neg h1, ih fun h2 => h (List.mem_cons_of_mem _ h2)]
    rfl
theorem join_two (x y : List UInt8) (l : List (List UInt8)) (s : List UInt8) : Go.Lib.join (x :: y :: l) s = x ++ (s ++ Go.Lib.join (y :: l) s) := by
  simp [Go.Lib.join, List.intercalate]
theorem join_one (x : List UInt8) (s : List UInt8) : Go.Lib.join [x] s = x := by simp [Go.Lib.join, List.intercalate]
theorem spl_join (c : UInt8) : ∀ L : List (List UInt8), L ≠ [] → (∀ x ∈ L, c ∉ x) → spl c (Go.Lib.join L [c]) = L
  | [], h, _ => absurd rfl h
  | [x], _, h => by rw [join_one, spl_free c x (h x (List.mem_cons_self ..))]
  | x :: y :: L, _, h => by
    rw [join_two, List.singleton_append, spl_app c x _ (h x (List.mem_cons_self ..)), spl_join c (y :: L) (by simp) fun z hz => h z (List.mem_cons_of_mem _ hz)]
theorem join_short (c : UInt8) (k : Nat) : ∀ L : List (List UInt8), (∀ x ∈ L, x.length ≤ k) → (Go.Lib.join L [c]).length ≤ L.length * (k + 1)
  | [], _ => by simp [Go.Lib.join, List.intercalate]
  | [x], h => by
    have := h x (List.mem_cons_self ..)
    rw [join_one]; simp; omega
  | x :: y :: L, h => by
    have h1 := h x (List.mem_cons_self ..)
    have h2 := join_short c k (y :: L) fun z hz => h z (List.mem_cons_of_mem _ hz)
    rw [join_two, List.length_append, List.length_append, List.length_cons (a := x), Nat.add_mul]
    simp only [List.length_cons, List.length_nil] at h2 ⊢
    omega
end Go.Proofs.YtihjdodmlddffaaDoor.Fw
namespace Go.Proofs.YtihjdodmlddffaaDoor.Fw
open Go.RowKit
set_option linter.unusedVariables false
set_option linter.unusedSimpArgs false
theorem b_Decimal (n : Int) (h0 : -9223372036854775808 ≤ n) (h1 : n ≤ 9223372036854775807) : G.i_Decimal n = some ⟨(Go.Lib.itoa n).toArray⟩ := by
  unfold G.i_Decimal G.strconv_FormatInt
  rw [if_pos ⟨rfl, h0, h1⟩]; rfl
theorem b_size (n : Int) (h : n.natAbs < 1000000000000000000) : (⟨(Go.Lib.itoa n).toArray⟩ : ByteArray).size ≤ 19 := by
  have := itoa_short n h
  show (Go.Lib.itoa n).toArray.size ≤ 19
  simpa using this
theorem b_ReadDecimal (n : Int) (h : n.natAbs < 1000000000000000000) : G.i_ReadDecimal ⟨(Go.Lib.itoa n).toArray⟩ = some (n, true) := by
  have hs := b_size n h
  rw [p_ReadDecimal _ (by omega), numR_itoa n h]
theorem b_loop (l : List Int) (h : smallN l) (hn : l.length ≤ 64) (L : List ByteArray) (hL : L = l.map fun n => (⟨(Go.Lib.itoa n).toArray⟩ : ByteArray)) : iter (G.i_ReadList.s0 L) (([] : List Int), (0 : Int)) = some (.inl l) := by
  subst hL
  have hlen : (l.map fun n => (⟨(Go.Lib.itoa n).toArray⟩ : ByteArray)).length = l.length := List.length_map _
  have hh := iter_inv (step := G.i_ReadList.s0 (l.map fun n => (⟨(Go.Lib.itoa n).toArray⟩ : ByteArray))) (n := l.length) (g := fun o => o) (fun i (o : List Int) => o = l.take i) ?_ ?_ l.length 0 [] (by omega) rfl
  · obtain ⟨o, ho, hh⟩ := hh
    rw [List.take_length] at ho
    subst ho
    exact hh
  · intro i o hi ho
    subst ho
    have hx := h i hi
    have hg : (l.map fun n => (⟨(Go.Lib.itoa n).toArray⟩ : ByteArray)).getD i default = ⟨(Go.Lib.itoa (l.getD i default)).toArray⟩ := by
      simp [List.getD_eq_getElem?_getD, hi]
    have hr := b_ReadDecimal (l.getD i default) (by omega)
    have hl : (l.take i).length = i := by rw [List.length_take]; omega
    have hw : inR (l.getD i default) (-1000000000000) 1000000000000 = true := by
      unfold inR
      rw [Bool.and_eq_true, decide_eq_true_eq, decide_eq_true_eq]
      exact hx
    simp only [G.i_ReadList.s0, hlen, Int.toNat_natCast, hg]
    rw [decide_eq_true (by omega), cond_true, if_pos ⟨by omega, by omega⟩, hr]
    simp only [Option.bind_some, cond_true, p_within, hw, Bool.not_true, cond_false]
    rw [if_pos ⟨by omega, by omega⟩, wrap64 (by omega) (by omega), take_snocI hi]
    exact ⟨_, rfl, rfl⟩
  · intro o ho
    simp only [G.i_ReadList.s0, hlen]
    rw [decide_eq_false (by omega), cond_false]
/-- A list of numbers is read back. -/
theorem b_ReadList (l : List Int) (h : smallN l) (h1 : 1 ≤ l.length) (hn : l.length ≤ 64) : G.i_ReadList ⟨(listL l).toArray⟩ = some (some l, true) := by
  have hshort : ∀ x ∈ l.map Go.Lib.itoa, x.length ≤ 19 := by
    intro x hx
    obtain ⟨n, hn, rfl⟩ := List.mem_map.1 hx
    obtain ⟨i, hi, e⟩ := List.mem_iff_getElem.1 hn
    have := h i hi
    rw [List.getD_eq_getElem?_getD, List.getElem?_eq_getElem hi, Option.getD_some, e] at this
    exact itoa_short n (by omega)
  have hsize : (⟨(listL l).toArray⟩ : ByteArray).size ≤ 2000 := by
    have := join_short 44 19 (l.map Go.Lib.itoa) hshort
    show (listL l).toArray.size ≤ 2000
    rw [List.size_toArray]
    unfold listL
    rw [List.length_map] at this
    omega
  have hspl : spl 44 (listL l) = l.map Go.Lib.itoa := spl_join 44 _ (by intro e; have := congrArg List.length e; simp at this; subst this; simp at h1) fun x hx => by
    obtain ⟨n, _, rfl⟩ := List.mem_map.1 hx
    exact itoa_free n (.inl rfl)
  obtain ⟨L, l1, l2⟩ := p_Split ⟨(listL l).toArray⟩ 44 (by omega)
  have hL : L = l.map fun n => (⟨(Go.Lib.itoa n).toArray⟩ : ByteArray) := by
    refine eq_of_data ?_
    rw [l2, List.map_map]
    show spl 44 (listL l).toArray.toList = _
    rw [List.toList_toArray, hspl]
    apply List.map_congr_left
    intro n _
    simp
  have hne : ¬ (⟨(listL l).toArray⟩ : ByteArray) = ⟨#[45]⟩ := fun e => by
    have e2 : listL l = [45] := by
      have := congrArg (fun b : ByteArray => b.data.toList) e
      simpa using this
    rw [e2] at hspl
    have e3 : l.map Go.Lib.itoa = [[45]] := hspl.symm
    cases l with
    | nil => simp at h1
    | cons n t =>
      have e4 : Go.Lib.itoa n = [45] := (List.cons.inj e3).1
      have hx := h 0 (by simp)
      have := numR_itoa n (by simp at hx; omega)
      rw [e4] at this
      have hh : numR ⟨[45].toArray⟩ = (0, false) := by decide
      rw [hh] at this
      cases this
  unfold G.i_ReadList
  rw [decide_eq_false hne, cond_false]
  have l1 : G.strings_Split ⟨(listL l).toArray⟩ (⟨#[44]⟩ : ByteArray) = some L := l1
  rw [l1, Option.bind_some, b_loop l h hn L hL]
  simp only [jn, Option.bind_some, Sum.elim_inl]
  rw [decide_eq_false (by omega), cond_false]
end Go.Proofs.YtihjdodmlddffaaDoor.Fw
namespace Go.Proofs.YtihjdodmlddffaaDoor.Fw
open Go.RowKit
set_option linter.unusedVariables false
set_option linter.unusedSimpArgs false
theorem mul_in {x y a b : Int} (h1 : 0 ≤ x) (h2 : x ≤ a) (h3 : 0 ≤ y) (h4 : y ≤ b) : 0 ≤ x * y ∧ x * y ≤ a * b :=
  ⟨Int.mul_nonneg h1 h3, Int.mul_le_mul h2 h4 h3 (by omega)⟩
theorem p_R8Numbers (c : List Int) (hc : bytesOk c) : ∃ a b, G.s_R8Numbers c = some (a, b) ∧ -100000 ≤ a ∧ a ≤ 3600000000 ∧ 1 ≤ b ∧ b ≤ 5000 := by
  unfold G.s_R8Numbers G.s_l00From
  rw [Option.bind_some]
  obtain ⟨s1, v1, e1, k1, a1, b1⟩ := p_pick hc (m := 0) (by omega) (s := Tl00Src.mk c 0 0) ⟨rfl, Int.le_refl _, Int.le_refl _⟩ 60000 (by omega)
  first | rw [e1] | (simp only [] at e1 ⊢; rw [e1])
  rw [Option.bind_some]
  obtain ⟨s2, v2, e2, k2, a2, b2⟩ := p_pick hc (m := 2) (by omega) k1 60000 (by omega)
  rw [e2, Option.bind_some]
  obtain ⟨s3, v3, e3, k3, a3, b3⟩ := p_pick hc (m := 4) (by omega) k2 5000 (by omega)
  rw [e3, Option.bind_some]
  have c1 := b1 (by omega)
  have c2 := b2 (by omega)
  have c3 := b3 (by omega)
  have hm := mul_in a1 (show v1 ≤ 59999 by omega) a2 (show v2 ≤ 59999 by omega)
  refine ⟨_, _, rfl, ?_⟩
  rw [wrap64 (x := v1 * v2) (by omega) (by omega), wrap64 (x := v1 * v2 - 100000) (by omega) (by omega), wrap64 (x := 1 + v3) (by omega) (by omega)]
  omega
theorem p_DivRound (a b : Int) (hb : 1 ≤ b) (hb2 : b ≤ 1000000000000) (ha : -1000000000000 ≤ a) (ha2 : a ≤ 1000000000000) : G.i_DivRound a b = some (near a b) := by
  have w1 : inR a (-1000000000000) 1000000000000 = true := by unfold inR; rw [Bool.and_eq_true, decide_eq_true_eq, decide_eq_true_eq]; omega
  have w2 : inR b (-1000000000000) 1000000000000 = true := by unfold inR; rw [Bool.and_eq_true, decide_eq_true_eq, decide_eq_true_eq]; omega
  unfold G.i_DivRound
  simp only [p_within, w1, w2, Option.bind_some, cond_true, Bool.not_true, cond_false, p_nearest a b hb hb2 (by omega) (by omega)]
/-- What lies between two values. -/
def blendV (y z x : Int) : Int := if x ≤ 0 then y else if 1000 ≤ x then z else y + near ((z - y) * x) 1000
theorem mul_abs {d x : Int} (hd : -1000000 ≤ d) (hd2 : d ≤ 1000000) (h0 : 0 ≤ x) (h1 : x ≤ 1000) : -1000000000 ≤ d * x ∧ d * x ≤ 1000000000 := by
  by_cases c : 0 ≤ d
  · have := mul_in c hd2 h0 h1
    omega
  · have := mul_in (x := -d) (y := x) (a := 1000000) (b := 1000) (by omega) (by omega) h0 h1
    rw [Int.neg_mul] at this
    omega
theorem blendV_le (y z x : Int) (hy : -10000 ≤ y ∧ y ≤ 10000) (hz : -10000 ≤ z ∧ z ≤ 10000) (h0 : 0 ≤ x) (h1 : x ≤ 1000) : min y z ≤ blendV y z x ∧ blendV y z x ≤ max y z := by
  unfold blendV
  split
  · omega
  · split
    · omega
    · by_cases c : y ≤ z
      · have hm := mul_in (x := z - y) (y := x) (a := z - y) (b := 1000) (by omega) (Int.le_refl _) h0 h1
        have := near_between (a := (z - y) * x) (b := 1000) (D := z - y) (by omega) hm.1 hm.2
        omega
      · have hm := mul_in (x := y - z) (y := x) (a := y - z) (b := 1000) (by omega) (Int.le_refl _) h0 h1
        have := near_between (a := (y - z) * x) (b := 1000) (D := y - z) (by omega) hm.1 hm.2
        have e : (z - y) * x = -((y - z) * x) := by rw [← Int.neg_mul]; congr 1; omega
        rw [e, near_neg _ _ (by omega)]
        omega
theorem p_Blend (y z x : Int) (hy : -10000 ≤ y ∧ y ≤ 10000) (hz : -10000 ≤ z ∧ z ≤ 10000) (h0 : 0 ≤ x) (h1 : x ≤ 1000) : G.i_Blend 0 y 1000 z x = some (blendV y z x) := by
  have hin : ∀ v : Int, -10000 ≤ v → v ≤ 10000 → inR v (-1000000) 1000000 = true := fun v g1 g2 => by unfold inR; rw [Bool.and_eq_true, decide_eq_true_eq, decide_eq_true_eq]; omega
  have h := iter_scan (step := G.i_Blend.s0 0 y 1000 z) (n := 4) (p := fun i => true) (v := ()) (r := (0 : Int)) ?_ ?_ 4 0 (by omega)
  · have h : iter (G.i_Blend.s0 0 y 1000 z) (0 : Int) = some (.inl ()) := h
    unfold G.i_Blend
    rw [h]
    simp only [jn, Option.bind_some, Sum.elim_inl]
    rw [decide_eq_false (show ¬ (1000 : Int) ≤ 0 by omega)]
    unfold blendV
    by_cases c : x ≤ 0
    · rw [decide_eq_true c, if_pos c]; rfl
    · rw [decide_eq_false c, if_neg c]
      simp only [cond_false, Option.bind_some]
      by_cases c2 : 1000 ≤ x
      · rw [decide_eq_true c2, if_pos c2]; rfl
      · rw [decide_eq_false c2, if_neg c2, cond_false]
        have hm := mul_abs (d := z - y) (x := x) (by omega) (by omega) h0 h1
        rw [wrap64 (x := z - y) (by omega) (by omega), wrap64 (x := x - 0) (by omega) (by omega), Int.sub_zero, wrap64 (x := (z - y) * x) (by omega) (by omega), wrap64 (x := (1000 : Int) - 0) (by omega) (by omega), Int.sub_zero, p_nearest _ 1000 (by omega) (by omega) (by omega) (by omega), Option.bind_some]
        have hb := blendV_le y z x hy hz h0 h1
        unfold blendV at hb
        rw [if_neg c, if_neg c2] at hb
        rw [wrap64 (by omega) (by omega)]
  · intro i hi
    have hg : inR (([(0 : Int), y, 1000, z] : List Int).getD i default) (-1000000) 1000000 = true := by
      match i, hi with
      | 0, _ => exact hin 0 (by omega) (by omega)
      | 1, _ => exact hin y hy.1 hy.2
      | 2, _ => exact hin 1000 (by omega) (by omega)
      | 3, _ => exact hin z hz.1 hz.2
    simp only [G.i_Blend.s0, Int.toNat_natCast]
    rw [decide_eq_true (by omega), cond_true, if_pos ⟨by omega, by omega⟩, p_within, hg, Option.bind_some, cond_true, wrap64 (by omega) (by omega)]
    rfl
  · simp only [G.i_Blend.s0]
    rw [decide_eq_false (by omega), cond_false]
theorem p_r8Same (l : List Int) (hn : l.length ≤ 1000) : G.l_r8Same l l = some true := by
  unfold G.l_r8Same
  rw [decide_eq_true rfl, cond_true]
  have h := iter_scan (step := G.l_r8Same.s0 l l) (n := l.length) (p := fun i => true) (v := ()) (r := false) ?_ ?_ l.length 0 (by omega)
  · have hall : ((List.range' 0 l.length).all fun i => true) = true := by simp
    rw [hall, if_pos rfl] at h
    rw [show (0 : Int) = ((0 : Nat) : Int) from rfl, h]
    rfl
  · intro i hi
    simp only [G.l_r8Same.s0, Int.toNat_natCast, decide_true, cond_true]
    rw [decide_eq_true (by omega), cond_true, if_pos ⟨by omega, by omega⟩, if_pos ⟨by omega, by omega⟩, wrap64 (by omega) (by omega)]
    rfl
  · simp only [G.l_r8Same.s0]
    rw [decide_eq_false (by omega), cond_false]
theorem law_Basics (c m : List Int) (hc : ∀ x ∈ c, 0 ≤ x ∧ x ≤ 255) (hm : ∀ x ∈ m, 0 ≤ x ∧ x ≤ 255) : G.l_FnBasics c m = some true := by
  unfold G.l_FnBasics G.l_r8Long
  by_cases c1 : (1048576 : Int) < ((c.length : Nat) : Int)
  · rw [decide_eq_true c1]; rfl
  · rw [decide_eq_false c1, cond_false, Option.bind_some]
    by_cases c2 : (1048576 : Int) < ((m.length : Nat) : Int)
    · rw [decide_eq_true c2]; rfl
    · rw [decide_eq_false c2, Option.bind_some, cond_false]
      have hc : bytesOk c := ⟨by omega, hc⟩
      have hm : bytesOk m := ⟨by omega, hm⟩
      obtain ⟨a, b, e1, a1, a2, b1, b2⟩ := p_R8Numbers c hc
      obtain ⟨x, x1, x2, x3⟩ := p_r8Wide m hm 0 1000 (by omega) (by omega) (by omega) (by omega)
      obtain ⟨y, y1, y2, y3⟩ := p_r8Wide m hm 2 5000 (by omega) (by omega) (by omega) (by omega)
      obtain ⟨z, z1, z2, z3⟩ := p_r8Wide m hm 4 5000 (by omega) (by omega) (by omega) (by omega)
      rw [e1, Option.bind_some]
      simp only []
      -- the root
      have hroot : ∃ r, G.i_RootOf a = some r ∧ ((bif decide (a < 0) then some (!(decide (r = 0))) else some false) = some false) ∧
          ((bif decide ((0 : Int) ≤ a) then (bif decide (r < 0) then some true else (bif decide ((3000000000 : Int) < r) then some true else (bif decide (a < IntKind.wrap .i64 (r * r)) then some true else some (decide (IntKind.wrap .i64 (IntKind.wrap .i64 (r + 1) * IntKind.wrap .i64 (r + 1)) ≤ a))))) else some false) = some false) := by
        by_cases g : a < 1
        · refine ⟨0, p_RootOf0 a g, ?_, ?_⟩
          · cases decide (a < 0) <;> rfl
          · by_cases g0 : 0 ≤ a
            · obtain rfl : a = 0 := by omega
              decide
            · rw [decide_eq_false g0]; rfl
        · obtain ⟨r, r1, r2, r3, r4, r5⟩ := p_RootOf a (by omega) (by omega)
          have r6 : r ≤ 60000 := by
            by_cases h : r ≤ 60000
            · exact h
            · have := Int.mul_le_mul (show (60001 : Int) ≤ r by omega) (show (60001 : Int) ≤ r by omega) (by omega) (by omega)
              omega
          have hrr := mul_in (show 0 ≤ r by omega) r6 (show 0 ≤ r by omega) r6
          have hr1 := mul_in (show 0 ≤ r + 1 by omega) (show r + 1 ≤ 60001 by omega) (show 0 ≤ r + 1 by omega) (show r + 1 ≤ 60001 by omega)
          refine ⟨r, r1, by rw [decide_eq_false (by omega)]; rfl, ?_⟩
          rw [decide_eq_true (show 0 ≤ a by omega), decide_eq_false (show ¬ r < 0 by omega), decide_eq_false (show ¬ (3000000000 : Int) < r by omega), wrap64 (x := r * r) (by omega) (by omega), decide_eq_false (show ¬ a < r * r by omega), wrap64 (x := r + 1) (by omega) (by omega), wrap64 (x := (r + 1) * (r + 1)) (by omega) (by omega), decide_eq_false (show ¬ (r + 1) * (r + 1) ≤ a by omega)]
          rfl
      obtain ⟨r, r1, r2, r3⟩ := hroot
      rw [r1, Option.bind_some, r2, Option.bind_some, cond_false, r3, Option.bind_some, cond_false]
      -- the quotient
      have hq := near_err a b (by omega)
      have hqn := near_neg a b (by omega)
      have hnb : -10000000000 ≤ near a b * b ∧ near a b * b ≤ 10000000000 := by omega
      have hn1 : -4000000000 ≤ near a b ∧ near a b ≤ 4000000000 := by
        unfold near
        by_cases g : a < 0
        · rw [if_pos g]
          have h1 := nearA_nonneg (A := -a) (b := b) (by omega) (by omega)
          have h2 := nearA_le (A := -a) (b := b) (D := -a) (by omega) (by omega) (by have := Int.mul_le_mul_of_nonneg_left (a := 1) (b := b) (c := -a) b1 (by omega); omega)
          omega
        · rw [if_neg g]
          have h1 := nearA_nonneg (A := a) (b := b) (by omega) (by omega)
          have h2 := nearA_le (A := a) (b := b) (D := a) (by omega) (by omega) (by have := Int.mul_le_mul_of_nonneg_left (a := 1) (b := b) (c := a) b1 (by omega); omega)
          omega
      rw [p_DivRound a b b1 (by omega) (by omega) (by omega), Option.bind_some]
      unfold G.l_r8Abs
      rw [Option.bind_some, wrap64 (x := near a b * b) (by omega) (by omega), wrap64 (x := a - near a b * b) (by omega) (by omega), wrap64 (x := 0 - (a - near a b * b)) (by omega) (by omega), wrap64 (x := 2 * max (a - near a b * b) (0 - (a - near a b * b))) (by omega) (by omega), decide_eq_false (show ¬ b < 2 * max (a - near a b * b) (0 - (a - near a b * b)) by omega), cond_false]
      rw [wrap64 (x := 0 - a) (by omega) (by omega), p_DivRound (0 - a) b b1 (by omega) (by omega) (by omega), Option.bind_some, show 0 - a = -a by omega, hqn, wrap64 (x := 0 - near a b) (by omega) (by omega), decide_eq_true (show -near a b = 0 - near a b by omega), Option.bind_some]
      simp only [Bool.not_true, cond_false]
      -- what lies between
      rw [x1, Option.bind_some, y1, Option.bind_some, z1, Option.bind_some, wrap64 (x := y - 2500) (by omega) (by omega), wrap64 (x := z - 2500) (by omega) (by omega)]
      have hbl := blendV_le (y - 2500) (z - 2500) x ⟨by omega, by omega⟩ ⟨by omega, by omega⟩ x2 (by omega)
      rw [p_Blend (y - 2500) (z - 2500) x ⟨by omega, by omega⟩ ⟨by omega, by omega⟩ x2 (by omega), p_Blend (y - 2500) (z - 2500) 0 ⟨by omega, by omega⟩ ⟨by omega, by omega⟩ (by omega) (by omega), p_Blend (y - 2500) (z - 2500) 1000 ⟨by omega, by omega⟩ ⟨by omega, by omega⟩ (by omega) (by omega)]
      have g0 : blendV (y - 2500) (z - 2500) 0 = y - 2500 := by unfold blendV; rw [if_pos (by omega)]
      have g1 : blendV (y - 2500) (z - 2500) 1000 = z - 2500 := by unfold blendV; rw [if_neg (by omega), if_pos (by omega)]
      simp only [Option.bind_some, g0, g1, decide_true, Bool.not_true]
      rw [decide_eq_false (by omega), decide_eq_false (by omega)]
      simp only [cond_false, Option.bind_some]
      -- texts
      have hsm : smallN [a, b, x, y - 2500, z - 2500] := by
        intro i hi
        match i, hi with
        | 0, _ => exact ⟨by show -1000000000000 ≤ a; omega, by show a ≤ 1000000000000; omega⟩
        | 1, _ => exact ⟨by show -1000000000000 ≤ b; omega, by show b ≤ 1000000000000; omega⟩
        | 2, _ => exact ⟨by show -1000000000000 ≤ x; omega, by show x ≤ 1000000000000; omega⟩
        | 3, _ => exact ⟨by show -1000000000000 ≤ y - 2500; omega, by show y - 2500 ≤ 1000000000000; omega⟩
        | 4, _ => exact ⟨by show -1000000000000 ≤ z - 2500; omega, by show z - 2500 ≤ 1000000000000; omega⟩
      have hne : ¬ [a, b, x, y - 2500, z - 2500] = ([] : List Int) := by simp
      rw [p_ListText _ hsm (by simp), if_neg hne, Option.bind_some, b_ReadList _ hsm (by simp) (by simp), Option.bind_some]
      simp only [onO]
      rw [b_Decimal a (by omega) (by omega), Option.bind_some, b_ReadDecimal a (by omega), Option.bind_some]
      simp only [p_r8Same [a, b, x, y - 2500, z - 2500] (by simp), Option.bind_some, cond_true, decide_true]
theorem ret_FnBasics (nl : Bool) (rows : List (List CV)) (hl : rows.length ≤ 9223372036854775807) (_ : nl = true → rows = []) (hr : ∀ r ∈ rows, Okl [.int .u8] r) (nl2 : Bool) (rows2 : List (List CV)) (hl2 : rows2.length ≤ 9223372036854775807) (_ : nl2 = true → rows2 = []) (hr2 : ∀ r ∈ rows2, Okl [.int .u8] r) :
    Ret Tryd.prog 3 none [.c (.sl nl false 1 rows), .c (.sl nl2 false 1 rows2)] [] (.c (.v (.bool true))) := by
  obtain ⟨a, rfl, ha⟩ := bytes_in hr
  obtain ⟨b, rfl, hb⟩ := bytes_in hr2
  exact Ret.args (by simp [AV.lo]) (AWkL.cons (AWk.c CWk.sl) (AWkL.cons (AWk.c CWk.sl) AWkL.nil)) (ret_l_FnBasics a b (law_Basics a b ha hb))
end Go.Proofs.YtihjdodmlddffaaDoor.Fw
