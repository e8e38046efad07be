/- What the functions without memory come to. No condition. -/
import Derived.Test.YtihjdodmlddffaaDoorHBma
import Derived.Test.YtihjdodmlddffaaDoorFwGf
import Derived.Test.YtihjdodmlddffaaDoorFwZb
namespace Go.Proofs.YtihjdodmlddffaaDoor.Fw
open Go.RowKit
set_option linter.unusedVariables false
set_option linter.unusedSimpArgs false
theorem all_getD {a b : List Int} (hl : a.length = b.length) : ((List.range' 0 a.length).all fun i => decide (a.getD i default = b.getD i default)) = decide (a = b) := by
  rw [Bool.eq_iff_iff, List.all_eq_true, decide_eq_true_eq]
  constructor
  · intro h
    refine List.ext_getElem hl fun i h1 h2 => ?_
    have := h i (by simp [List.mem_range'_1]; exact h1)
    simpa [List.getD_eq_getElem?_getD, h1, h2] using this
  · rintro rfl i _
    simp
end Go.Proofs.YtihjdodmlddffaaDoor.Fw
namespace Go.Proofs.YtihjdodmlddffaaDoor.Fw
open Go.RowKit
set_option linter.unusedVariables false
set_option linter.unusedSimpArgs false
def inR (n lo hi : Int) : Bool := decide (lo ≤ n) && decide (n ≤ hi)
theorem p_within (n lo hi : Int) : G.i_within n lo hi = some (inR n lo hi) := by
  unfold G.i_within inR; cases decide (lo ≤ n) <;> rfl
theorem p_l00In (n lo hi : Int) : G.s_l00In n lo hi = some (inR n lo hi) := by
  unfold G.s_l00In inR; cases decide (lo ≤ n) <;> rfl
theorem all_getDL {α : Type} [Inhabited α] [DecidableEq α] {a b : List α} (hl : a.length = b.length) : ((List.range' 0 a.length).all fun i => decide (a.getD i default = b.getD i default)) = decide (a = b) := by
  rw [Bool.eq_iff_iff, List.all_eq_true, decide_eq_true_eq]
  constructor
  · intro h
    refine List.ext_getElem hl fun i h1 h2 => ?_
    have := h i (by simp [List.mem_range'_1]; exact h1)
    simpa [List.getD_eq_getElem?_getD, h1, h2] using this
  · rintro rfl i _
    simp
theorem makeOk_of {n : Nat} {b : Nat} (h : n ≤ 1048576) (hb : b ≤ 1000) : makeOk (n : Int) (n : Int) b := by
  unfold makeOk
  have h1 : n * b ≤ 1048576 * 1000 := Nat.mul_le_mul h hb
  have h2 : (b : Int) * (n : Int) = ((n * b : Nat) : Int) := by rw [Int.natCast_mul, Int.mul_comm]
  refine ⟨?_, ?_, ?_, ?_⟩ <;> omega
end Go.Proofs.YtihjdodmlddffaaDoor.Fw
namespace Go.Proofs.YtihjdodmlddffaaDoor.Fw
open Go.RowKit
set_option linter.unusedVariables false
set_option linter.unusedSimpArgs false
theorem root_loop {R : Type} (n : Int) (h1 : 1 ≤ n) (hn : n ≤ 9223372036854775807) (step : Int × Int → Option ((Int × Int) ⊕ (Int ⊕ R)))
    (hs : ∀ lo hi, 1 ≤ lo → lo < hi → hi ≤ 3037000499 → step (lo, hi) = some (.inl (if ((lo + hi + 1) / 2) * ((lo + hi + 1) / 2) ≤ n then ((lo + hi + 1) / 2, hi) else (lo, (lo + hi + 1) / 2 - 1))))
    (he : ∀ lo hi, ¬ lo < hi → step (lo, hi) = some (.inr (.inl lo))) :
    ∃ r, iter step ((1 : Int), (3037000499 : Int)) = some (.inl r) ∧ 1 ≤ r ∧ r ≤ 3037000499 ∧ r * r ≤ n ∧ n < (r + 1) * (r + 1) := by
  have key : ∀ (m : Nat) (lo hi : Int), hi - lo ≤ (m : Int) → 1 ≤ lo → lo ≤ hi → hi ≤ 3037000499 → lo * lo ≤ n → n < (hi + 1) * (hi + 1) →
      ∃ r, iter step (lo, hi) = some (.inl r) ∧ 1 ≤ r ∧ r ≤ 3037000499 ∧ r * r ≤ n ∧ n < (r + 1) * (r + 1) := by
    intro m
    induction m with
    | zero =>
      intro lo hi g1 g2 g3 g4 g5 g6
      obtain rfl : lo = hi := by omega
      exact ⟨lo, iter_inr (he lo lo (by omega)), g2, g4, g5, g6⟩
    | succ m ih =>
      intro lo hi g1 g2 g3 g4 g5 g6
      by_cases c : lo < hi
      · by_cases c2 : ((lo + hi + 1) / 2) * ((lo + hi + 1) / 2) ≤ n
        · obtain ⟨r, k⟩ := ih ((lo + hi + 1) / 2) hi (by omega) (by omega) (by omega) g4 c2 g6
          refine ⟨r, (iter_inl ?_).trans k.1, k.2⟩
          rw [hs lo hi g2 c g4, if_pos c2]
        · obtain ⟨r, k⟩ := ih lo ((lo + hi + 1) / 2 - 1) (by omega) (by omega) (by omega) (by omega) g5 (by rw [Int.sub_add_cancel]; omega)
          refine ⟨r, (iter_inl ?_).trans k.1, k.2⟩
          rw [hs lo hi g2 c g4, if_neg c2]
      · obtain rfl : lo = hi := by omega
        exact ⟨lo, iter_inr (he lo lo (by omega)), g2, g4, g5, g6⟩
  exact key 3037000499 1 3037000499 (by omega) (by omega) (by omega) (by omega) (by omega) (by omega)
theorem mid_iff {m n : Int} (h : 0 < m) (hn : 0 ≤ n) : m ≤ n.tdiv m ↔ m * m ≤ n := by
  rw [Int.tdiv_eq_ediv_of_nonneg hn, Int.le_ediv_iff_mul_le h]
/-- The nearest quotient of what is not negative. -/
def nearA (A b : Int) : Int := if b - A % b ≤ A % b then A / b + 1 else A / b
def near (a b : Int) : Int := if a < 0 then -nearA (-a) b else nearA a b
theorem nearA_nonneg {A b : Int} (hA : 0 ≤ A) (hb : 0 < b) : 0 ≤ nearA A b := by
  have := Int.ediv_nonneg hA (Int.le_of_lt hb)
  unfold nearA; split <;> omega
theorem nearA_err {A b : Int} (hA : 0 ≤ A) (hb : 0 < b) : -b ≤ 2 * (A - nearA A b * b) ∧ 2 * (A - nearA A b * b) ≤ b := by
  have h1 := Int.mul_ediv_add_emod A b
  have h2 := Int.emod_nonneg A (Int.ne_of_gt hb)
  have h3 := Int.emod_lt_of_pos A hb
  have h4 : A / b * b = b * (A / b) := Int.mul_comm _ _
  unfold nearA
  split
  · rw [Int.add_mul, Int.one_mul, h4]; omega
  · rw [h4]; omega
theorem nearA_le {A b D : Int} (hA : 0 ≤ A) (hb : 0 < b) (h : A ≤ D * b) : nearA A b ≤ D := by
  have h1 := Int.mul_ediv_add_emod A b
  have h2 := Int.emod_nonneg A (Int.ne_of_gt hb)
  have h3 : A / b ≤ D := Int.ediv_le_of_le_mul hb h
  unfold nearA
  split
  · by_cases e : A / b = D
    · rw [e, Int.mul_comm] at h1
      omega
    · omega
  · exact h3
theorem nearA_zero {b : Int} (hb : 0 < b) : nearA 0 b = 0 := by
  unfold nearA
  rw [Int.zero_emod, Int.zero_ediv, if_neg (by omega)]
theorem near_neg (a b : Int) (hb : 0 < b) : near (-a) b = -near a b := by
  unfold near
  by_cases h : a < 0
  · rw [if_neg (by omega), if_pos h, Int.neg_neg]
  · by_cases h0 : a = 0
    · subst h0
      rw [if_neg (by omega), if_neg (by omega), Int.neg_zero, nearA_zero hb]
      rfl
    · rw [if_pos (by omega), if_neg h, Int.neg_neg]
theorem near_err (a b : Int) (hb : 0 < b) : -b ≤ 2 * (a - near a b * b) ∧ 2 * (a - near a b * b) ≤ b := by
  unfold near
  split
  · have := nearA_err (A := -a) (b := b) (by omega) hb
    rw [Int.neg_mul]
    omega
  · exact nearA_err (by omega) hb
theorem near_between {a b D : Int} (hb : 0 < b) (h0 : 0 ≤ a) (h : a ≤ D * b) : 0 ≤ near a b ∧ near a b ≤ D := by
  unfold near
  rw [if_neg (by omega)]
  exact ⟨nearA_nonneg h0 hb, nearA_le h0 hb h⟩
end Go.Proofs.YtihjdodmlddffaaDoor.Fw
namespace Go.Proofs.YtihjdodmlddffaaDoor.Fw
open Go.RowKit
set_option linter.unusedVariables false
set_option linter.unusedSimpArgs false
def bytesOk (c : List Int) : Prop := c.length ≤ 1048576 ∧ ∀ x ∈ c, 0 ≤ x ∧ x ≤ 255
def srcOk (c : List Int) (m : Int) (s : Tl00Src) : Prop := s.code = c ∧ 0 ≤ s.at_ ∧ s.at_ ≤ m
theorem srcOk.mono {c : List Int} {m n : Int} {s : Tl00Src} (h : srcOk c m s) (hn : m ≤ n) : srcOk c n s := ⟨h.1, h.2.1, by have := h.2.2; omega⟩
theorem and255 (x : BitVec 64) : 0 ≤ ((x &&& BitVec.ofInt 64 255).toNat : Int) ∧ ((x &&& BitVec.ofInt 64 255).toNat : Int) ≤ 255 := by
  have h : (x &&& BitVec.ofInt 64 255).toNat ≤ 255 := by
    rw [BitVec.toNat_and]
    exact Nat.le_trans Nat.and_le_right (by decide)
  omega
theorem wrapU64 {x : Int} (h1 : 0 ≤ x) (h2 : x ≤ 9223372036854775807) : IntKind.wrap .u64 x = x := by
  show x % 18446744073709551616 = x
  omega
theorem p_next {c : List Int} (hc : bytesOk c) {m : Int} (hm : m ≤ 1000000000000) {s : Tl00Src} (h : srcOk c m s) : ∃ s' v, G.s_l00Src_next s.code s.at_ s.seed = some (s', v) ∧ srcOk c (m + 1) s' ∧ 0 ≤ v ∧ v ≤ 255 := by
  obtain ⟨h1, h2, h3⟩ := h
  obtain ⟨hc1, hc2⟩ := hc
  unfold G.s_l00Src_next
  rw [h1]
  have hw : IntKind.wrap .i64 (s.at_ + 1) = s.at_ + 1 := wrap64 (by omega) (by omega)
  have hb : ∃ q, (bif (decide (s.at_ < ((c.length : Nat) : Int))) then (if 0 ≤ s.at_ ∧ s.at_ < ((c.length : Nat) : Int) then (some (IntKind.wrap .i64 (c.getD s.at_.toNat default))) else none) else (some (0 : Int))) = some q ∧ 0 ≤ q ∧ q ≤ 255 := by
    by_cases c1 : s.at_ < ((c.length : Nat) : Int)
    · rw [decide_eq_true c1, cond_true, if_pos ⟨h2, c1⟩]
      have hg : c.getD s.at_.toNat default ∈ c := by
        rw [List.getD_eq_getElem?_getD, List.getElem?_eq_getElem (by omega), Option.getD_some]
        exact List.getElem_mem _
      have := hc2 _ hg
      exact ⟨_, rfl, by rw [wrap64 (by omega) (by omega)]; omega⟩
    · rw [decide_eq_false c1]
      exact ⟨0, rfl, by omega, by omega⟩
  obtain ⟨q, hq, hq1, hq2⟩ := hb
  rw [hq, Option.bind_some, hw]
  by_cases c2 : s.at_ + 1 ≤ ((c.length : Nat) : Int)
  · rw [decide_eq_true c2]
    exact ⟨_, _, rfl, ⟨rfl, by show 0 ≤ s.at_ + 1; omega, by show s.at_ + 1 ≤ m + 1; omega⟩, hq1, hq2⟩
  · rw [decide_eq_false c2]
    refine ⟨_, _, rfl, ⟨rfl, by show 0 ≤ s.at_ + 1; omega, by show s.at_ + 1 ≤ m + 1; omega⟩, ?_⟩
    have key := and255 (BitVec.ofInt 64 ((IntKind.wrap .u64 ((IntKind.wrap .u64 ((IntKind.wrap .u64 (s.seed * (6364136223846793005 : Int))) + (IntKind.wrap .u64 q))) + (1442695040888963407 : Int))).fdiv (2 ^ 40)))
    show 0 ≤ IntKind.wrap .i64 (IntKind.wrap .u64 (((BitVec.ofInt 64 ((IntKind.wrap .u64 ((IntKind.wrap .u64 ((IntKind.wrap .u64 (s.seed * (6364136223846793005 : Int))) + (IntKind.wrap .u64 q))) + (1442695040888963407 : Int))).fdiv (2 ^ 40)) &&& BitVec.ofInt 64 255).toNat : Nat) : Int)) ∧ IntKind.wrap .i64 (IntKind.wrap .u64 (((BitVec.ofInt 64 ((IntKind.wrap .u64 ((IntKind.wrap .u64 ((IntKind.wrap .u64 (s.seed * (6364136223846793005 : Int))) + (IntKind.wrap .u64 q))) + (1442695040888963407 : Int))).fdiv (2 ^ 40)) &&& BitVec.ofInt 64 255).toNat : Nat) : Int)) ≤ 255
    generalize ((((BitVec.ofInt 64 ((IntKind.wrap .u64 ((IntKind.wrap .u64 ((IntKind.wrap .u64 (s.seed * (6364136223846793005 : Int))) + (IntKind.wrap .u64 q))) + (1442695040888963407 : Int))).fdiv (2 ^ 40)) &&& BitVec.ofInt 64 255).toNat : Nat) : Int)) = z at key
    rw [wrapU64 (by omega) (by omega), wrap64 (by omega) (by omega)]
    exact key
theorem p_pick {c : List Int} (hc : bytesOk c) {m : Int} (hm : m ≤ 100000000000) {s : Tl00Src} (h : srcOk c m s) (n : Int) (hn : n ≤ 1000000000000) : ∃ s' v, G.s_l00Src_pick s.code s.at_ s.seed n = some (s', v) ∧ srcOk c (m + 2) s' ∧ 0 ≤ v ∧ (1 ≤ n → v < n) := by
  unfold G.s_l00Src_pick
  by_cases c1 : n ≤ 1
  · rw [decide_eq_true c1]
    exact ⟨_, 0, rfl, ⟨h.1, h.2.1, by have := h.2.2; show s.at_ ≤ m + 2; omega⟩, by omega, by omega⟩
  · rw [decide_eq_false c1]
    obtain ⟨s1, v1, e1, h1, b1, b2⟩ := p_next hc (by omega) h
    rw [cond_false, e1, Option.bind_some]
    by_cases c2 : 200 < n
    · rw [decide_eq_true c2]
      obtain ⟨s2, v2, e2, h2, b3, b4⟩ := p_next hc (m := m + 1) (by omega) h1
      simp only [cond_true, e2, Option.bind_some]
      rw [if_neg (by omega), wrap64 (x := v1 * 256) (by omega) (by omega), wrap64 (x := v1 * 256 + v2) (by omega) (by omega)]
      refine ⟨_, _, rfl, ⟨h2.1, h2.2.1, by have := h2.2.2; show s2.at_ ≤ m + 2; omega⟩, Int.tmod_nonneg _ (by omega), fun _ => Int.tmod_lt_of_pos _ (by omega)⟩
    · rw [decide_eq_false c2]
      simp only [cond_false, Option.bind_some]
      rw [if_neg (by omega)]
      refine ⟨_, _, rfl, ⟨h1.1, h1.2.1, by have := h1.2.2; show s1.at_ ≤ m + 2; omega⟩, Int.tmod_nonneg _ (by omega), fun _ => Int.tmod_lt_of_pos _ (by omega)⟩
theorem p_one {c : List Int} (hc : bytesOk c) {m : Int} (hm : m ≤ 100000000000) {s : Tl00Src} (h : srcOk c m s) (n : Int) (hn : n ≤ 1000000000000) : ∃ s' v, G.s_l00Src_one s.code s.at_ s.seed n = some (s', v) ∧ srcOk c (m + 2) s' := by
  obtain ⟨s1, v, e, h1, _⟩ := p_pick hc hm h n hn
  exact ⟨s1, _, by rw [G.s_l00Src_one, e]; rfl, h1⟩
theorem mem_getD {α : Type} [Inhabited α] {l : List α} {i : Nat} (hi : i < l.length) : l.getD i default ∈ l := by
  rw [List.getD_eq_getElem?_getD, List.getElem?_eq_getElem hi, Option.getD_some]
  exact List.getElem_mem hi
theorem p_among {c : List Int} (hc : bytesOk c) {m : Int} (hm : m ≤ 100000000000) {s : Tl00Src} (h : srcOk c m s) (l : List Int) (h0 : 1 ≤ l.length) (hl : l.length ≤ 1000000) : ∃ s' v, G.s_l00Src_among s.code s.at_ s.seed l = some (s', v) ∧ srcOk c (m + 2) s' ∧ v ∈ l := by
  obtain ⟨s1, v, e, h1, b1, b2⟩ := p_pick hc hm h ((l.length : Nat) : Int) (by omega)
  have := b2 (by omega)
  refine ⟨s1, _, by rw [G.s_l00Src_among, e, Option.bind_some, if_pos ⟨b1, this⟩], h1, mem_getD (by omega)⟩
theorem bytes_in {rows : List (List CV)} (h : ∀ r ∈ rows, Okl [.int .u8] r) : ∃ a : List Int, rows = mapR rI_u8 a ∧ ∀ x ∈ a, 0 ≤ x ∧ x ≤ 255 := by
  refine rows_of (f := rI_u8) (rows := rows) (fun r hr => ?_)
  obtain ⟨y0, ys0, rfl, e0, k0⟩ := okcons (h r hr)
  obtain rfl := oknil k0
  obtain ⟨v0, rfl, b0, c0⟩ := okint e0
  exact ⟨v0, rfl, b0, c0⟩
end Go.Proofs.YtihjdodmlddffaaDoor.Fw
namespace Go.Proofs.YtihjdodmlddffaaDoor.Fw
open Go.RowKit
set_option linter.unusedVariables false
set_option linter.unusedSimpArgs false
theorem p_RootOf0 (n : Int) (h : n < 1) : G.i_RootOf n = some 0 := by
  unfold G.i_RootOf
  rw [decide_eq_true h]; rfl
theorem p_RootOf (n : Int) (h1 : 1 ≤ n) (hn : n ≤ 9223372036854775807) : ∃ r, G.i_RootOf n = some r ∧ 1 ≤ r ∧ r ≤ 3037000499 ∧ r * r ≤ n ∧ n < (r + 1) * (r + 1) := by
  have hh := root_loop (R := Int) n h1 hn (G.i_RootOf.s0 n) ?_ ?_
  · obtain ⟨r, h, h2⟩ := hh
    refine ⟨r, ?_, h2⟩
    unfold G.i_RootOf
    rw [decide_eq_false (by omega), cond_false, h]
    rfl
  · intro lo hi g1 g2 g3
    have hm : (lo + hi + 1).tdiv 2 = (lo + hi + 1) / 2 := Int.tdiv_eq_ediv_of_nonneg (by omega)
    have hq := mid_iff (m := (lo + hi + 1) / 2) (n := n) (by omega) (by omega)
    have hq0 : 0 ≤ n.tdiv ((lo + hi + 1) / 2) := Int.tdiv_nonneg (by omega) (by omega)
    have hq1 : n.tdiv ((lo + hi + 1) / 2) ≤ n := by
      rw [Int.tdiv_eq_ediv_of_nonneg (by omega)]
      exact Int.ediv_le_self _ (by omega)
    simp only [G.i_RootOf.s0]
    rw [decide_eq_true g2, cond_true, wrap64 (x := lo + hi) (by omega) (by omega), wrap64 (x := lo + hi + 1) (by omega) (by omega), hm, wrap64 (x := (lo + hi + 1) / 2) (by omega) (by omega), if_neg (by omega), wrap64 (x := n.tdiv ((lo + hi + 1) / 2)) (by omega) (by omega), wrap64 (x := (lo + hi + 1) / 2 - 1) (by omega) (by omega)]
    by_cases c : (lo + hi + 1) / 2 * ((lo + hi + 1) / 2) ≤ n
    · rw [if_pos c, decide_eq_true (hq.2 c)]; rfl
    · rw [if_neg c, decide_eq_false (fun h => c (hq.1 h))]; rfl
  · intro lo hi g
    simp only [G.i_RootOf.s0]
    rw [decide_eq_false g]; rfl
end Go.Proofs.YtihjdodmlddffaaDoor.Fw
namespace Go.Proofs.YtihjdodmlddffaaDoor.Fw
open Go.RowKit
set_option linter.unusedVariables false
set_option linter.unusedSimpArgs false
end Go.Proofs.YtihjdodmlddffaaDoor.Fw
namespace Go.Proofs.YtihjdodmlddffaaDoor.Fw
open Go.RowKit
set_option linter.unusedVariables false
set_option linter.unusedSimpArgs false
def chOk (c : Int) : Bool := inR c 97 122 || inR c 48 57
def nameOk (s : ByteArray) : Bool := !(decide (s.size = 0) || decide ((10 : Int) < ((s.size : Nat) : Int))) && (inR (byteAt s 0) 97 122 && (List.range' 0 s.size).all fun i => chOk (byteAt s i))
theorem lt_not (a b : Int) : decide (a < b) = !decide (b ≤ a) := by
  by_cases h : a < b
  · simp [h, Int.not_le.2 h]
  · simp [h, Int.not_lt.1 h]
end Go.Proofs.YtihjdodmlddffaaDoor.Fw
namespace Go.Proofs.YtihjdodmlddffaaDoor.Fw
open Go.RowKit
set_option linter.unusedVariables false
set_option linter.unusedSimpArgs false
/-- Decimal digits, the last one first. -/
def revD (u : Nat) : List Int := if h : u = 0 then [] else (48 + ((u % 10 : Nat) : Int)) :: revD (u / 10)
termination_by u
decreasing_by omega
theorem revD_zero : revD 0 = [] := by unfold revD; simp
theorem revD_pos {u : Nat} (h : u ≠ 0) : revD u = (48 + ((u % 10 : Nat) : Int)) :: revD (u / 10) := by
  rw [revD]; simp [h]
theorem revD_len (u : Nat) : (revD u).length ≤ u := by
  induction u using Nat.strongRecOn with
  | ind u ih =>
    by_cases h : u = 0
    · subst h; simp [revD_zero]
    · rw [revD_pos h, List.length_cons]
      have := ih (u / 10) (by omega)
      omega
def u8 (d : Int) : UInt8 := UInt8.ofNat d.toNat
theorem bytesU_eq (xs : List Int) : bytesU xs = xs.map u8 := rfl
theorem dec_rev (u : Nat) (h : u ≠ 0) : Go.Lib.decDigits u = ((revD u).map u8).reverse := by
  induction u using Nat.strongRecOn with
  | ind u ih =>
    rw [Go.Lib.decDigits, revD_pos h]
    by_cases c : u < 10
    · have h0 : u / 10 = 0 := by omega
      have h1 : u % 10 = u := by omega
      rw [dif_pos c, h0, revD_zero, h1]
      have : (48 + (u : Int)).toNat = 48 + u := by omega
      simp only [List.map_cons, List.map_nil, List.reverse_cons, List.reverse_nil, List.nil_append, u8, this]
    · rw [dif_neg c, ih (u / 10) (by omega) (by omega)]
      simp only [List.map_cons, List.reverse_cons]
      congr 1
theorem dec_len (u : Nat) : (Go.Lib.decDigits u).length ≤ u + 1 := by
  by_cases h : u = 0
  · subst h; rw [Go.Lib.decDigits]; simp
  · rw [dec_rev u h]
    have := revD_len u
    simp only [List.length_reverse, List.length_map]
    omega
theorem itoa_len (n : Int) : (Go.Lib.itoa n).length ≤ n.natAbs + 2 := by
  unfold Go.Lib.itoa
  split
  · have := dec_len n.natAbs; simp only [List.length_cons]; omega
  · have := dec_len n.toNat; omega
end Go.Proofs.YtihjdodmlddffaaDoor.Fw
namespace Go.Proofs.YtihjdodmlddffaaDoor.Fw
open Go.RowKit
set_option linter.unusedVariables false
set_option linter.unusedSimpArgs false
theorem bapp (L M : List UInt8) : (⟨L.toArray⟩ : ByteArray) ++ ⟨M.toArray⟩ = ⟨(L ++ M).toArray⟩ := by
  apply ByteArray.ext
  simp
/-- The numbers' texts with a comma between. -/
def listL (l : List Int) : List UInt8 := Go.Lib.join (l.map Go.Lib.itoa) [44]
theorem listL_one (x : Int) : listL [x] = Go.Lib.itoa x := by simp [listL, Go.Lib.join, List.intercalate]
theorem join_snoc (xs : List (List UInt8)) (y sep : List UInt8) (h : xs ≠ []) : Go.Lib.join (xs ++ [y]) sep = Go.Lib.join xs sep ++ (sep ++ y) := by
  induction xs with
  | nil => exact absurd rfl h
  | cons x xs ih =>
    cases xs with
    | nil => simp [Go.Lib.join, List.intercalate, List.intersperse]
    | cons z zs =>
      have := ih (by simp)
      simp only [Go.Lib.join, List.intercalate, List.cons_append, List.intersperse, List.flatten_cons] at this ⊢
      rw [this]
      simp only [List.append_assoc]
theorem listL_snoc (l : List Int) (y : Int) (h : l ≠ []) : listL (l ++ [y]) = listL l ++ ([44] ++ Go.Lib.itoa y) := by
  unfold listL
  rw [List.map_append]
  exact join_snoc _ _ _ (by simpa using h)
def smallN (l : List Int) : Prop := ∀ i, i < l.length → -1000000000000 ≤ l.getD i default ∧ l.getD i default ≤ 1000000000000
theorem smallN.abs {l : List Int} (h : smallN l) {i : Nat} (hi : i < l.length) : (l.getD i default).natAbs ≤ 1000000000000 := by have := h i hi; omega
theorem take_snocI {l : List Int} {i : Nat} (hi : i < l.length) : l.take i ++ [l.getD i default] = l.take (i + 1) := by
  rw [List.take_succ_eq_append_getElem hi, List.getD_eq_getElem?_getD, List.getElem?_eq_getElem hi, Option.getD_some]
theorem listL_len {l : List Int} (h : smallN l) : ∀ i, i ≤ l.length → (listL (l.take i)).length ≤ i * 1000000000010 := by
  intro i
  induction i with
  | zero => intro _; simp [listL, Go.Lib.join, List.intercalate]
  | succ i ih =>
    intro hi
    have h1 := ih (by omega)
    have h2 := itoa_len (l.getD i default)
    have h3 := h.abs (i := i) (by omega)
    rw [← take_snocI (by omega)]
    by_cases c : l.take i = []
    · rw [c, List.nil_append, listL_one]; omega
    · rw [listL_snoc _ _ c]
      simp only [List.length_append, List.length_cons, List.length_nil]
      omega
theorem take_ne {l : List Int} {i : Nat} (h0 : 0 < i) (hi : i ≤ l.length) : l.take i ≠ [] := by
  intro h
  have := congrArg List.length h
  rw [List.length_take, List.length_nil] at this
  omega
end Go.Proofs.YtihjdodmlddffaaDoor.Fw
namespace Go.Proofs.YtihjdodmlddffaaDoor.Fw
open Go.RowKit
set_option linter.unusedVariables false
set_option linter.unusedSimpArgs false
/-- The first part gets something in front. -/
def preF (p : List UInt8) : List (List UInt8) → List (List UInt8)
  | [] => [p]
  | q :: qs => (p ++ q) :: qs
/-- The parts between the bytes c. -/
def spl (c : UInt8) : List UInt8 → List (List UInt8)
  | [] => [[]]
  | x :: xs => if x = c then [] :: spl c xs else preF [x] (spl c xs)
theorem spl_ne (c : UInt8) (l : List UInt8) : spl c l ≠ [] := by
  cases l with
  | nil => simp [spl]
  | cons x xs =>
    unfold spl
    split
    · simp
    · cases spl c xs <;> simp [preF]
theorem preF_nil {L : List (List UInt8)} (h : L ≠ []) : preF [] L = L := by
  cases L with
  | nil => exact absurd rfl h
  | cons q qs => simp [preF]
theorem preF_preF (p q : List UInt8) (L : List (List UInt8)) (h : L ≠ []) : preF p (preF q L) = preF (p ++ q) L := by
  cases L with
  | nil => exact absurd rfl h
  | cons r rs => simp [preF]
theorem splitK_spl (c : UInt8) (l : List UInt8) : Go.Lib.splitK [c] 0 (l.count c) l = spl c l := by
  induction l with
  | nil => rfl
  | cons x xs ih =>
    by_cases h : x = c
    · subst h
      have hidx : Go.Lib.index (x :: xs) [x] = 0 := by simp [Go.Lib.index]
      rw [List.count_cons_self, Go.Lib.splitK, hidx]
      simp only [spl, if_true]
      rw [← ih]
      simp
    · have hne : ¬ [c].isPrefixOf (x :: xs) = true := by simp [Ne.symm h]
      rw [List.count_cons_of_ne h]
      simp only [spl, if_neg h]
      rw [← ih]
      cases hk : xs.count c with
      | zero => simp [Go.Lib.splitK, preF]
      | succ k =>
        have hi : Go.Lib.index (x :: xs) [c] = if (Go.Lib.index xs [c] == -1) = true then -1 else Go.Lib.index xs [c] + 1 := by
          rw [Go.Lib.index, if_neg hne]
        by_cases h1 : Go.Lib.index xs [c] = -1
        · simp [Go.Lib.splitK, hi, h1, preF]
        · have h2 : 0 ≤ Go.Lib.index xs [c] := by
            have := Go.Lib.index_ge xs [c]
            omega
          have h3 : (Go.Lib.index xs [c] + 1).toNat = (Go.Lib.index xs [c]).toNat + 1 := by omega
          have h4 : ¬ Go.Lib.index xs [c] + 1 = -1 := by omega
          simp [Go.Lib.splitK, hi, h1, h3, h4, preF]
end Go.Proofs.YtihjdodmlddffaaDoor.Fw
namespace Go.Proofs.YtihjdodmlddffaaDoor.Fw
open Go.RowKit
set_option linter.unusedVariables false
set_option linter.unusedSimpArgs false
theorem extr_data (s : ByteArray) (a b : Nat) : (s.extract a b).data.toList = (s.data.toList.drop a).take (b - a) := Go.Lib.extract_data s a b
theorem size_data (s : ByteArray) : s.size = s.data.toList.length := by
  show s.data.size = _
  exact Array.length_toList.symm
theorem toNat_inj {a b : UInt8} : ((a.toNat : Int) = (b.toNat : Int)) ↔ a = b := by
  constructor
  · intro h
    exact UInt8.toNat_inj.1 (by omega)
  · rintro rfl; rfl
theorem eq_of_data {L M : List ByteArray} (h : L.map (·.data.toList) = M.map (·.data.toList)) : L = M := by
  have inj : ∀ a b : ByteArray, a.data.toList = b.data.toList → a = b := fun a b h => ByteArray.ext (Array.toList_inj.1 h)
  induction L generalizing M with
  | nil => cases M with
    | nil => rfl
    | cons m ms => simp at h
  | cons l ls ih => cases M with
    | nil => simp at h
    | cons m ms =>
      simp only [List.map_cons, List.cons.injEq] at h
      rw [inj _ _ h.1, ih h.2]
end Go.Proofs.YtihjdodmlddffaaDoor.Fw
namespace Go.Proofs.YtihjdodmlddffaaDoor.Fw
open Go.RowKit
set_option linter.unusedVariables false
set_option linter.unusedSimpArgs false
def isDg (b : UInt8) : Bool := decide (48 ≤ b.toNat) && decide (b.toNat ≤ 57)
def valF (n : Nat) (l : List UInt8) : Nat := l.foldl (fun n b => 10 * n + (b.toNat - 48)) n
def valD (l : List UInt8) : Nat := valF 0 l
theorem iter_digits {step : Int × Int → Option ((Int × Int) ⊕ (Int ⊕ (Int × Bool)))} (l : List UInt8) (off : Nat) (hlen : l.length ≤ 18)
    (hs : ∀ (i n : Nat) (hi : i < l.length), n < 100000000000000000 → step ((n : Int), ((off + i : Nat) : Int)) = if isDg l[i] then some (.inl (((10 * n + (l[i].toNat - 48) : Nat) : Int), ((off + (i + 1) : Nat) : Int))) else some (.inr (.inr (0, false))))
    (he : ∀ n : Int, step (n, ((off + l.length : Nat) : Int)) = some (.inr (.inl n))) :
    iter step ((0 : Int), (off : Int)) = some (if l.all isDg then .inl ((valD l : Nat) : Int) else .inr (0, false)) := by
  have key : ∀ (m k n : Nat), k + m = l.length → n < 10 ^ k → iter step ((n : Int), ((off + k : Nat) : Int)) = some (if (l.drop k).all isDg then .inl ((valF n (l.drop k) : Nat) : Int) else .inr (0, false)) := by
    intro m
    induction m with
    | zero =>
      intro k n hk hn
      have : k = l.length := by omega
      subst this
      rw [iter_inr (r := .inl (n : Int)) (he _), List.drop_length]
      simp [valF]
    | succ m ih =>
      intro k n hk hn
      have hi : k < l.length := by omega
      have hp : 10 ^ k ≤ 10 ^ 17 := Nat.pow_le_pow_right (by omega) (by omega)
      have hb : n < 100000000000000000 := Nat.lt_of_lt_of_le hn (by simpa using hp)
      have h := hs k n hi hb
      have hd : l.drop k = l[k] :: l.drop (k + 1) := (List.getElem_cons_drop ..).symm
      rw [hd, List.all_cons]
      by_cases c : isDg l[k] = true
      · rw [if_pos c] at h
        rw [iter_inl h, ih (k + 1) _ (by omega) ?_, c, Bool.true_and]
        · rfl
        · have : l[k].toNat ≤ 57 := by
            unfold isDg at c
            simp only [Bool.and_eq_true, decide_eq_true_eq] at c
            exact c.2
          rw [Nat.pow_succ]; omega
      · rw [if_neg c] at h
        rw [iter_inr (r := .inr ((0 : Int), false)) h]
        simp only [Bool.not_eq_true] at c
        simp [c]
  have := key l.length 0 0 (by omega) (by simp)
  simpa [valD] using this
/-- What reading a number comes to. -/
def numD (neg : Bool) (D : List UInt8) : Int × Bool :=
  if D.length = 0 ∨ 18 < D.length ∨ (D.head? = some 48 ∧ 1 < (if neg then 1 else 0) + D.length) ∨ D.all isDg = false then (0, false) else ((if neg then -((valD D : Nat) : Int) else ((valD D : Nat) : Int)), true)
def isNeg (s : ByteArray) : Bool := decide (s.data.toList.head? = some 45)
def numR (s : ByteArray) : Int × Bool := numD (isNeg s) (s.data.toList.drop (if isNeg s then 1 else 0))
theorem byteAt_get (s : ByteArray) (i : Nat) (h : i < s.data.toList.length) : byteAt s i = ((s.data.toList[i]).toNat : Int) := by
  unfold byteAt
  rw [List.getD_eq_getElem?_getD, List.getElem?_eq_getElem h, Option.getD_some]
theorem isNeg_iff (s : ByteArray) (h : 0 < s.size) : isNeg s = decide (byteAt s 0 = 45) := by
  rw [size_data] at h
  unfold isNeg
  rw [byteAt_get s 0 h, List.head?_eq_getElem?, List.getElem?_eq_getElem h]
  congr 1
  rw [eq_iff_iff]
  constructor
  · intro h
    rw [Option.some.inj h]; rfl
  · intro h
    exact congrArg some (toNat_inj.1 h)
theorem isNeg_len {s : ByteArray} (h : isNeg s = true) : 1 ≤ s.size := by
  rw [size_data]
  unfold isNeg at h
  cases hl : s.data.toList with
  | nil => rw [hl] at h; simp at h
  | cons a b => simp
theorem isDg_lo {b : UInt8} (h : isDg b = true) : 48 ≤ b.toNat ∧ b.toNat ≤ 57 := by
  unfold isDg at h
  simpa using h
theorem wrapU8 {n : Int} (h0 : 0 ≤ n) (h1 : n < 256) : IntKind.wrap .u8 n = n := by
  show n % 256 = n
  omega
theorem valF_lt : ∀ (l : List UInt8) (n k : Nat), l.all isDg = true → n < 10 ^ k → valF n l < 10 ^ (k + l.length) := by
  intro l
  induction l with
  | nil => intro n k _ h; simpa [valF] using h
  | cons b l ih =>
    intro n k ha h
    rw [List.all_cons, Bool.and_eq_true] at ha
    have h1 := isDg_lo ha.1
    have := ih (10 * n + (b.toNat - 48)) (k + 1) ha.2 (by rw [Nat.pow_succ]; omega)
    rw [List.length_cons, show k + (l.length + 1) = k + 1 + l.length by omega]
    exact this
theorem valD_le {l : List UInt8} (h : l.all isDg = true) (hl : l.length ≤ 18) : ((valD l : Nat) : Int) ≤ 1000000000000000000 := by
  have h1 := valF_lt l 0 0 h (by simp)
  have h2 : 10 ^ (0 + l.length) ≤ 10 ^ 18 := Nat.pow_le_pow_right (by omega) (by omega)
  have h3 : valD l < 1000000000000000000 := Nat.lt_of_lt_of_le h1 (by simpa using h2)
  omega
theorem dg_in (b : UInt8) : inR ((b.toNat : Nat) : Int) 48 57 = isDg b := by
  unfold inR isDg
  congr 1
  · rw [decide_eq_decide]; omega
  · rw [decide_eq_decide]; omega
theorem dg_add (n : Nat) (b : UInt8) (hn : n < 100000000000000000) (hb : isDg b = true) : IntKind.wrap .i64 ((IntKind.wrap .i64 ((10 : Int) * (n : Int))) + (IntKind.wrap .i64 (IntKind.wrap .u8 (((b.toNat : Nat) : Int) - (48 : Int))))) = ((10 * n + (b.toNat - 48) : Nat) : Int) := by
  have h := isDg_lo hb
  have w1 : IntKind.wrap .u8 (((b.toNat : Nat) : Int) - (48 : Int)) = ((b.toNat : Nat) : Int) - 48 := wrapU8 (by omega) (by omega)
  have w2 : IntKind.wrap .i64 (((b.toNat : Nat) : Int) - (48 : Int)) = ((b.toNat : Nat) : Int) - 48 := wrap64 (by omega) (by omega)
  have w3 : IntKind.wrap .i64 ((10 : Int) * (n : Int)) = 10 * (n : Int) := wrap64 (by omega) (by omega)
  rw [w1, w2, w3, wrap64 (by omega) (by omega)]
  omega
/-- Decimal digits and values. -/
theorem valF_append (n : Nat) (l m : List UInt8) : valF n (l ++ m) = valF (valF n l) m := by unfold valF; rw [List.foldl_append]
theorem valF_one (n : Nat) (b : UInt8) : valF n [b] = 10 * n + (b.toNat - 48) := rfl
theorem dec_step (u d : Nat) (hu : u ≠ 0) (hd : d < 10) : Go.Lib.decDigits (10 * u + d) = Go.Lib.decDigits u ++ [UInt8.ofNat (48 + d)] := by
  rw [Go.Lib.decDigits, dif_neg (by omega)]
  have h1 : (10 * u + d) / 10 = u := by omega
  have h2 : (10 * u + d) % 10 = d := by omega
  rw [h1, h2]
theorem ofNat_dg {b : UInt8} (h : isDg b = true) : UInt8.ofNat (48 + (b.toNat - 48)) = b := by
  have := isDg_lo h
  rw [show 48 + (b.toNat - 48) = b.toNat by omega]
  exact UInt8.ofNat_toNat
theorem valF_ge (n : Nat) (l : List UInt8) : n ≤ valF n l := by
  induction l generalizing n with
  | nil => exact Nat.le_refl _
  | cons b l ih =>
    have := ih (10 * n + (b.toNat - 48))
    show n ≤ valF (10 * n + (b.toNat - 48)) l
    omega
theorem dec_valF (l : List UInt8) : ∀ n : Nat, n ≠ 0 → l.all isDg = true → Go.Lib.decDigits (valF n l) = Go.Lib.decDigits n ++ l := by
  induction l with
  | nil => intro n _ _; simp [valF]
  | cons b l ih =>
    intro n hn ha
    rw [List.all_cons, Bool.and_eq_true] at ha
    have hb := isDg_lo ha.1
    show Go.Lib.decDigits (valF (10 * n + (b.toNat - 48)) l) = _
    rw [ih _ (by omega) ha.2, dec_step n _ hn (by omega), ofNat_dg ha.1, List.append_assoc]
    rfl
theorem dec_valD (b : UInt8) (l : List UInt8) (ha : (b :: l).all isDg = true) (hb : b ≠ 48) : valD (b :: l) ≠ 0 ∧ Go.Lib.decDigits (valD (b :: l)) = b :: l := by
  rw [List.all_cons, Bool.and_eq_true] at ha
  have h1 := isDg_lo ha.1
  have h2 : b.toNat ≠ 48 := fun h => hb (UInt8.toNat_inj.1 h)
  have hv : valD (b :: l) = valF (b.toNat - 48) l := by
    show valF (10 * 0 + (b.toNat - 48)) l = _
    rw [Nat.mul_zero, Nat.zero_add]
  have hge := valF_ge (b.toNat - 48) l
  refine ⟨by omega, ?_⟩
  rw [hv, dec_valF l _ (by omega) ha.2, Go.Lib.decDigits, dif_pos (by omega), ofNat_dg ha.1]
  rfl
theorem dec_head (u : Nat) (h : u ≠ 0) : (Go.Lib.decDigits u).head? ≠ some 48 := by
  induction u using Nat.strongRecOn with
  | ind u ih =>
    rw [Go.Lib.decDigits]
    by_cases c : u < 10
    · rw [dif_pos c]
      intro e
      have e : UInt8.ofNat (48 + u) = 48 := Option.some.inj e
      have := congrArg UInt8.toNat e
      rw [UInt8.toNat_ofNat_of_lt' (by show 48 + u < 256; omega)] at this
      have : 48 + u = 48 := this
      omega
    · rw [dif_neg c]
      have := ih (u / 10) (by omega) (by omega)
      cases hd : Go.Lib.decDigits (u / 10) with
      | nil =>
        have hl := Go.Lib.decDigits_length (u / 10)
        rw [Go.Lib.decDigits] at hd
        split at hd <;> simp at hd
      | cons x xs =>
        rw [hd] at this
        simpa using this
theorem dec_zero : Go.Lib.decDigits 0 = [48] := by rw [Go.Lib.decDigits, dif_pos (by omega)]; rfl
/-- A text of digits is what its number is told as, where it does not begin with a nought. -/
theorem itoa_num (neg : Bool) (b : UInt8) (l : List UInt8) (ha : (b :: l).all isDg = true) :
    Go.Lib.itoa (if neg then -((valD (b :: l) : Nat) : Int) else ((valD (b :: l) : Nat) : Int)) = (if neg then [45] else []) ++ (b :: l) ↔ ¬ (b = 48 ∧ 1 < (if neg then 1 else 0) + (b :: l).length) := by
  by_cases hb : b = 48
  · subst hb
    have hv : valD (48 :: l) = valF 0 l := rfl
    cases neg with
    | false =>
      simp only [Bool.false_eq_true, if_false, List.nil_append, Go.Lib.itoa_nonneg, List.length_cons, true_and]
      by_cases hl : l = []
      · subst hl
        have : valD [48] = 0 := rfl
        rw [this, dec_zero]
        simp
      · have h1 : 0 < l.length := List.length_pos_iff.2 hl
        refine ⟨fun e => ?_, fun e => absurd (by omega) e⟩
        by_cases h0 : valD (48 :: l) = 0
        · rw [h0, dec_zero] at e
          have := congrArg List.length e
          simp only [List.length_cons, List.length_nil] at this
          omega
        · exact absurd (by rw [e]; rfl) (dec_head _ h0)
    | true =>
      simp only [if_true, List.cons_append, List.nil_append, List.length_cons, true_and]
      refine ⟨fun e => ?_, fun e => absurd (by omega) e⟩
      by_cases h0 : valD (48 :: l) = 0
      · rw [h0] at e
        have : Go.Lib.itoa (-((0 : Nat) : Int)) = [48] := by
          show Go.Lib.itoa (0 : Int) = _
          rw [show (0 : Int) = ((0 : Nat) : Int) from rfl, Go.Lib.itoa_nonneg, dec_zero]
        rw [this] at e
        simp at e
      · rw [Go.Lib.itoa_neg _ (by omega)] at e
        have e : Go.Lib.decDigits (valD (48 :: l)) = 48 :: l := (List.cons.inj e).2
        exact absurd (by rw [e]; rfl) (dec_head _ h0)
  · obtain ⟨h1, h2⟩ := dec_valD b l ha hb
    refine ⟨fun _ h => hb h.1, fun _ => ?_⟩
    cases neg with
    | false =>
      simp only [Bool.false_eq_true, if_false, List.nil_append, Go.Lib.itoa_nonneg]
      exact h2
    | true =>
      simp only [if_true, List.cons_append, List.nil_append]
      rw [Go.Lib.itoa_neg _ (by omega), h2]
end Go.Proofs.YtihjdodmlddffaaDoor.Fw
namespace Go.Proofs.YtihjdodmlddffaaDoor.Fw
open Go.RowKit
set_option linter.unusedVariables false
set_option linter.unusedSimpArgs false
theorem p_HasPrefix (s : ByteArray) (hs : s.size ≤ 1000000000) : G.strings_HasPrefix s ⟨#[45]⟩ = some (isNeg s) := by
  have hsz := size_data s
  unfold G.strings_HasPrefix G.internal_stringslite_HasPrefix
  have h1 : (⟨#[45]⟩ : ByteArray).size = 1 := rfl
  rw [h1]
  by_cases c : 1 ≤ s.size
  · rw [decide_eq_true (by omega), cond_true, if_pos ⟨by omega, by omega⟩]
    simp only [Option.bind_some]
    congr 1
    unfold isNeg
    rw [decide_eq_decide]
    have hd : (s.extract 0 1).data.toList = s.data.toList.take 1 := by rw [extr_data]; rfl
    constructor
    · intro e
      rw [e] at hd
      cases hl : s.data.toList with
      | nil =>
        rw [hl] at hsz
        have : s.size = 0 := hsz
        omega
      | cons a b => rw [hl] at hd; simp at hd; simp [hd]
    · intro e
      cases hl : s.data.toList with
      | nil => rw [hl] at e; simp at e
      | cons a b =>
        rw [hl] at hd e
        simp at e
        subst e
        apply ByteArray.ext
        apply Array.toList_inj.1
        rw [hd]
        rfl
  · rw [decide_eq_false (by omega), cond_false]
    simp only [Option.bind_some]
    cases h : isNeg s
    · rfl
    · have := isNeg_len h; omega
theorem p_ReadDecimal (s : ByteArray) (hs : s.size ≤ 1000000000) : G.i_ReadDecimal s = some (numR s) := by
  have hsz := size_data s
  unfold G.i_ReadDecimal
  rw [p_HasPrefix s hs]
  simp only [Option.bind_some]
  have hq : ∃ q : ByteArray, (bif isNeg s then (if 0 ≤ (1 : Int) ∧ (1 : Int) ≤ ((s.size : Nat) : Int) then (some (s.extract 1 s.size)) else none) else (some s)) = some q ∧ q.data.toList = s.data.toList.drop (if isNeg s then 1 else 0) ∧ q.size = s.size - (if isNeg s then 1 else 0) ∧ (if isNeg s then 1 else 0) ≤ s.size := by
    cases h : isNeg s
    · exact ⟨s, rfl, rfl, rfl, Nat.zero_le _⟩
    · have := isNeg_len h
      refine ⟨s.extract 1 s.size, ?_, ?_, ?_, this⟩
      · rw [cond_true, if_pos ⟨by omega, by omega⟩]
      · rw [extr_data, if_pos rfl, List.take_of_length_le (by rw [List.length_drop]; omega)]
      · rw [size_data, extr_data, List.length_take, List.length_drop, if_pos rfl]; omega
  obtain ⟨q, e1, e2, e3, e4⟩ := hq
  rw [e1]
  simp only [Option.bind_some]
  unfold numR numD
  have hD : ((s.data.toList.drop (if isNeg s then 1 else 0))).length = q.size := by rw [← e2, size_data]
  rw [hD, ← e2]
  by_cases c1 : q.size = 0
  · rw [decide_eq_true (by omega), cond_true]
    simp only [Option.bind_some, cond_true]
    rw [if_pos (.inl c1)]
  · rw [decide_eq_false (by omega), cond_false]
    simp only [Option.bind_some]
    by_cases c2 : 18 < q.size
    · rw [decide_eq_true (by omega), cond_true, if_pos (.inr (.inl c2))]
    · rw [decide_eq_false (by omega), cond_false]
      have hql := size_data q
      have hit := iter_digits (step := G.i_ReadDecimal.s0 q) q.data.toList 0 (by omega) ?_ ?_
      · have hit : iter (G.i_ReadDecimal.s0 q) ((0 : Int), (0 : Int)) = _ := hit
        rw [hit]
        cases c4 : q.data.toList.all isDg
        · rw [if_neg (show ¬ (false = true) by decide), if_pos (Or.inr (Or.inr (Or.inr rfl)))]
          rfl
        · have hb : (valD q.data.toList : Int) ≤ 1000000000000000000 := valD_le c4 (by omega)
          rw [if_pos (rfl : true = true)]
          simp only [jn, Option.bind_some, Sum.elim_inl]
          have hn : (bif (decide (((q.size : Nat) : Int) < ((s.size : Nat) : Int))) then (some (IntKind.wrap .i64 (0 - ((valD q.data.toList : Nat) : Int)))) else (some ((valD q.data.toList : Nat) : Int))) = some (if isNeg s then -((valD q.data.toList : Nat) : Int) else ((valD q.data.toList : Nat) : Int)) := by
            cases h : isNeg s
            · rw [h] at e3
              rw [decide_eq_false (by simp at e3; omega)]
              rfl
            · rw [h] at e3 e4
              rw [decide_eq_true (by simp at e3 e4; omega), cond_true, wrap64 (by omega) (by omega)]
              simp
          rw [hn]
          simp only [Option.bind_some]
          obtain ⟨b, l, hbl⟩ : ∃ b l, q.data.toList = b :: l := by
            cases h : q.data.toList with
            | nil =>
              rw [h] at hql
              have : q.size = 0 := hql
              omega
            | cons b l => exact ⟨b, l, rfl⟩
          have key := itoa_num (isNeg s) b l (by rw [← hbl]; exact c4)
          have hsd : s.data.toList = (if isNeg s then [45] else []) ++ (b :: l) := by
            rw [← hbl, e2]
            cases h : isNeg s
            · rfl
            · unfold isNeg at h
              have h := of_decide_eq_true h
              cases hl : s.data.toList with
              | nil => rw [hl] at h; simp at h
              | cons x xs => rw [hl] at h; simp at h; simp [h]
          have hlen : (if isNeg s then 1 else 0) + (b :: l).length = (if isNeg s then 1 else 0) + q.size := by rw [← hbl, hql]
          rw [hlen] at key
          have hdec : G.i_Decimal (if isNeg s then -((valD q.data.toList : Nat) : Int) else ((valD q.data.toList : Nat) : Int)) = some (⟨(Go.Lib.itoa (if isNeg s then -((valD q.data.toList : Nat) : Int) else ((valD q.data.toList : Nat) : Int))).toArray⟩ : ByteArray) := by
            unfold G.i_Decimal G.strconv_FormatInt
            rw [if_pos]
            · rfl
            · refine ⟨rfl, ?_⟩
              have : ∀ (x : Int) (b : Bool), 0 ≤ x → x ≤ 1000000000000000000 → -9223372036854775808 ≤ (if b = true then -x else x) ∧ (if b = true then -x else x) ≤ 9223372036854775807 := by
                intro x b h0 h1
                cases b <;> simp <;> omega
              exact this _ _ (by omega) hb
          rw [hdec]
          simp only [Option.bind_some]
          have hbeq : ((⟨(Go.Lib.itoa (if isNeg s then -((valD q.data.toList : Nat) : Int) else ((valD q.data.toList : Nat) : Int))).toArray⟩ : ByteArray) = s) ↔ Go.Lib.itoa (if isNeg s then -((valD (b :: l) : Nat) : Int) else ((valD (b :: l) : Nat) : Int)) = (if isNeg s then [45] else []) ++ (b :: l) := by
            rw [← hsd, ← hbl]
            constructor
            · intro e
              simpa using congrArg (fun z => z.data.toList) e
            · intro e
              apply ByteArray.ext
              apply Array.toList_inj.1
              simpa using e
          by_cases ce : b = 48 ∧ 1 < (if isNeg s then 1 else 0) + q.size
          · rw [decide_eq_false (fun x => (key.1 (hbeq.1 x)) ce), cond_false, if_pos (.inr (.inr (.inl ⟨by rw [hbl, ce.1]; rfl, ce.2⟩)))]
          · have hno : ¬ (q.size = 0 ∨ 18 < q.size ∨ (q.data.toList.head? = some 48 ∧ 1 < (if isNeg s = true then 1 else 0) + q.size) ∨ true = false) := by
              rintro (a | a | a | a)
              · omega
              · omega
              · rw [hbl] at a
                exact ce ⟨Option.some.inj a.1, a.2⟩
              · exact absurd a (by decide)
            rw [decide_eq_true (hbeq.2 (key.2 ce)), cond_true, if_neg hno]
      · intro i n hi hn
        simp only [G.i_ReadDecimal.s0, Int.toNat_natCast, Nat.zero_add]
        have w : IntKind.wrap .i64 ((i : Int) + 1) = ((i + 1 : Nat) : Int) := by rw [wrap64 (by omega) (by omega)]; omega
        rw [decide_eq_true (by omega), cond_true, if_pos ⟨by omega, by omega⟩, byteAt_get q i hi, w]
        cases c : isDg (q.data.toList[i])
        · rw [if_neg (show ¬ (false = true) by decide)]
          by_cases c5 : ((q.data.toList[i]).toNat : Int) < 48
          · rw [decide_eq_true c5]
            rfl
          · have c6 : (57 : Int) < ((q.data.toList[i]).toNat : Int) := by
              rw [← dg_in] at c
              unfold inR at c
              simp only [Bool.and_eq_false_iff, decide_eq_false_iff_not] at c
              omega
            rw [decide_eq_false c5, cond_false, if_pos ⟨by omega, by omega⟩, decide_eq_true c6]
            rfl
        · have hc := isDg_lo c
          have da := dg_add n _ hn c
          rw [Int.mul_comm 10] at da
          rw [if_pos (rfl : true = true), decide_eq_false (by omega), cond_false, if_pos ⟨by omega, by omega⟩, decide_eq_false (by omega)]
          simp only [Option.bind_some, cond_false]
          rw [if_pos ⟨by omega, by omega⟩, da]
      · intro n
        simp only [G.i_ReadDecimal.s0, Nat.zero_add]
        rw [decide_eq_false (by omega), cond_false]
end Go.Proofs.YtihjdodmlddffaaDoor.Fw
namespace Go.Proofs.YtihjdodmlddffaaDoor.Fw
open Go.RowKit
set_option linter.unusedVariables false
set_option linter.unusedSimpArgs false
theorem isDg_of {d : Nat} (h : d < 10) : isDg (UInt8.ofNat (48 + d)) = true ∧ (UInt8.ofNat (48 + d)).toNat = 48 + d := by
  have e : (UInt8.ofNat (48 + d)).toNat = 48 + d := UInt8.toNat_ofNat_of_lt' (by show 48 + d < 256; omega)
  exact ⟨by unfold isDg; rw [e]; simp; omega, e⟩
theorem dec_spec (u : Nat) : (Go.Lib.decDigits u).all isDg = true ∧ valD (Go.Lib.decDigits u) = u ∧ Go.Lib.decDigits u ≠ [] := by
  induction u using Nat.strongRecOn with
  | ind u ih =>
    rw [Go.Lib.decDigits]
    by_cases c : u < 10
    · rw [dif_pos c]
      obtain ⟨h1, h2⟩ := isDg_of c
      refine ⟨by rw [List.all_cons, h1]; rfl, ?_, by simp⟩
      show 10 * 0 + ((UInt8.ofNat (48 + u)).toNat - 48) = u
      rw [h2]; omega
    · rw [dif_neg c]
      obtain ⟨h1, h2⟩ := isDg_of (d := u % 10) (by omega)
      obtain ⟨g1, g2, g3⟩ := ih (u / 10) (by omega)
      refine ⟨by rw [List.all_append, g1, List.all_cons, h1]; rfl, ?_, by simp⟩
      unfold valD at g2 ⊢
      rw [valF_append, g2, valF_one, h2]
      omega
theorem dec_short (k : Nat) : ∀ u : Nat, u < 10 ^ (k + 1) → (Go.Lib.decDigits u).length ≤ k + 1 := by
  induction k with
  | zero =>
    intro u hu
    rw [Go.Lib.decDigits, dif_pos (by omega)]
    simp
  | succ k ih =>
    intro u hu
    rw [Go.Lib.decDigits]
    by_cases c : u < 10
    · rw [dif_pos c]; simp
    · rw [dif_neg c, List.length_append]
      have := ih (u / 10) (by rw [Nat.pow_succ] at hu; omega)
      simp only [List.length_cons, List.length_nil]
      omega
theorem dg_ne {b : UInt8} (h : isDg b = true) : b ≠ 45 ∧ b ≠ 44 ∧ b ≠ 47 := by
  have := isDg_lo h
  refine ⟨?_, ?_, ?_⟩ <;> (rintro rfl; revert this; decide)
theorem dec_free (u : Nat) {c : UInt8} (hc : c = 44 ∨ c = 47 ∨ c = 45) : c ∉ Go.Lib.decDigits u := fun h => by
  have := dg_ne (List.all_eq_true.1 (dec_spec u).1 c h)
  rcases hc with rfl | rfl | rfl
  · exact this.2.1 rfl
  · exact this.2.2 rfl
  · exact this.1 rfl
theorem itoa_cases (n : Int) : (∃ u : Nat, n = (u : Int) ∧ Go.Lib.itoa n = Go.Lib.decDigits u) ∨ ∃ u : Nat, 1 ≤ u ∧ n = -(u : Int) ∧ Go.Lib.itoa n = 45 :: Go.Lib.decDigits u := by
  by_cases h : 0 ≤ n
  · exact .inl ⟨n.toNat, by omega, by rw [show n = ((n.toNat : Nat) : Int) by omega, Go.Lib.itoa_nonneg]; rfl⟩
  · have h1 := Go.Lib.itoa_neg (-n).toNat (by omega)
    have h2 : -(((-n).toNat : Nat) : Int) = n := by omega
    rw [h2] at h1
    exact .inr ⟨(-n).toNat, by omega, by omega, h1⟩
theorem itoa_free (n : Int) {c : UInt8} (hc : c = 44 ∨ c = 47) : c ∉ Go.Lib.itoa n := fun h => by
  rcases itoa_cases n with ⟨u, _, e⟩ | ⟨u, _, _, e⟩
  · rw [e] at h
    exact dec_free u (by rcases hc with h | h <;> simp [h]) h
  · rw [e] at h
    rcases List.mem_cons.1 h with h | h
    · rcases hc with rfl | rfl <;> exact absurd h (by decide)
    · exact dec_free u (by rcases hc with h | h <;> simp [h]) h
theorem itoa_short (n : Int) (h : n.natAbs < 1000000000000000000) : (Go.Lib.itoa n).length ≤ 19 := by
  rcases itoa_cases n with ⟨u, rfl, e⟩ | ⟨u, _, rfl, e⟩
  · have := dec_short 17 u (by omega)
    rw [e]; omega
  · have := dec_short 17 u (by omega)
    rw [e, List.length_cons]; omega
/-- A number is read back. -/
theorem numR_itoa (n : Int) (h : n.natAbs < 1000000000000000000) : numR ⟨(Go.Lib.itoa n).toArray⟩ = (n, true) := by
  have key : ∀ (neg : Bool) (u : Nat), u < 1000000000000000000 → (neg = true → u ≠ 0) → numD neg (Go.Lib.decDigits u) = ((if neg then -(u : Int) else (u : Int)), true) := by
    intro neg u hu hn
    obtain ⟨g1, g2, g3⟩ := dec_spec u
    have hl := dec_short 17 u (by omega)
    have h0 : 0 < (Go.Lib.decDigits u).length := List.length_pos_iff.2 g3
    unfold numD
    rw [if_neg, g2]
    rintro (e | e | ⟨e1, e2⟩ | e)
    · omega
    · omega
    · by_cases hu0 : u = 0
      · subst hu0
        cases neg
        · rw [dec_zero] at e2
          simp at e2
        · exact absurd rfl (hn rfl)
      · exact dec_head u hu0 e1
    · rw [g1] at e; cases e
  unfold numR isNeg
  simp only []
  rcases itoa_cases n with ⟨u, rfl, e⟩ | ⟨u, hu, rfl, e⟩
  · rw [e]
    have hh : decide ((Go.Lib.decDigits u).head? = some 45) = false := by
      rw [decide_eq_false_iff_not]
      intro hd
      exact dec_free u (.inr (.inr rfl)) (List.mem_of_mem_head? (by rw [hd]; rfl))
    simp only [List.toList_toArray, hh, Bool.false_eq_true, if_false, List.drop_zero]
    rw [key false u (by omega) (by simp)]
    simp
  · rw [e]
    simp only [List.toList_toArray, List.head?_cons, decide_true, if_true, List.drop_succ_cons, List.drop_zero]
    rw [key true u (by omega) (fun _ => by omega)]
    simp
theorem spl_free (c : UInt8) (x : List UInt8) (h : c ∉ x) : spl c x = [x] := by
  induction x with
  | nil => rfl
  | cons a x ih =>
    have h1 : a ≠ c := fun e => h (by rw [e]; exact List.mem_cons_self ..)
    rw [spl, if_neg h1, ih fun h2 => h (List.mem_cons_of_mem _ h2)]
    rfl
theorem spl_app (c : UInt8) (x r : List UInt8) (h : c ∉ x) : spl c (x ++ c :: r) = x :: spl c r := by
  induction x with
  | nil => rw [List.nil_append, spl, if_pos rfl]
  | cons a x ih =>
    have h1 : a ≠ c := fun e => h (by rw [e]; exact List.mem_cons_self ..)
    rw [List.cons_append, spl, if_neg h1, ih fun h2 => h (List.mem_cons_of_mem _ h2)]
    rfl
theorem join_two (x y : List UInt8) (l : List (List UInt8)) (s : List UInt8) : Go.Lib.join (x :: y :: l) s = x ++ (s ++ Go.Lib.join (y :: l) s) := by
  simp [Go.Lib.join, List.intercalate]
theorem join_one (x : List UInt8) (s : List UInt8) : Go.Lib.join [x] s = x := by simp [Go.Lib.join, List.intercalate]
theorem spl_join (c : UInt8) : ∀ L : List (List UInt8), L ≠ [] → (∀ x ∈ L, c ∉ x) → spl c (Go.Lib.join L [c]) = L
  | [], h, _ => absurd rfl h
  | [x], _, h => by rw [join_one, spl_free c x (h x (List.mem_cons_self ..))]
  | x :: y :: L, _, h => by
    rw [join_two, List.singleton_append, spl_app c x _ (h x (List.mem_cons_self ..)), spl_join c (y :: L) (by simp) fun z hz => h z (List.mem_cons_of_mem _ hz)]
theorem join_short (c : UInt8) (k : Nat) : ∀ L : List (List UInt8), (∀ x ∈ L, x.length ≤ k) → (Go.Lib.join L [c]).length ≤ L.length * (k + 1)
  | [], _ => by simp [Go.Lib.join, List.intercalate]
  | [x], h => by
    have := h x (List.mem_cons_self ..)
    rw [join_one]; simp; omega
  | x :: y :: L, h => by
    have h1 := h x (List.mem_cons_self ..)
    have h2 := join_short c k (y :: L) fun z hz => h z (List.mem_cons_of_mem _ hz)
    rw [join_two, List.length_append, List.length_append, List.length_cons (a := x), Nat.add_mul]
    simp only [List.length_cons, List.length_nil] at h2 ⊢
    omega
end Go.Proofs.YtihjdodmlddffaaDoor.Fw
namespace Go.Proofs.YtihjdodmlddffaaDoor.Fw
open Go.RowKit
set_option linter.unusedVariables false
set_option linter.unusedSimpArgs false
theorem b_Decimal (n : Int) (h0 : -9223372036854775808 ≤ n) (h1 : n ≤ 9223372036854775807) : G.i_Decimal n = some ⟨(Go.Lib.itoa n).toArray⟩ := by
  unfold G.i_Decimal G.strconv_FormatInt
  rw [if_pos ⟨rfl, h0, h1⟩]; rfl
theorem b_size (n : Int) (h : n.natAbs < 1000000000000000000) : (⟨(Go.Lib.itoa n).toArray⟩ : ByteArray).size ≤ 19 := by
  have := itoa_short n h
  show (Go.Lib.itoa n).toArray.size ≤ 19
  simpa using this
theorem b_ReadDecimal (n : Int) (h : n.natAbs < 1000000000000000000) : G.i_ReadDecimal ⟨(Go.Lib.itoa n).toArray⟩ = some (n, true) := by
  have hs := b_size n h
  rw [p_ReadDecimal _ (by omega), numR_itoa n h]
end Go.Proofs.YtihjdodmlddffaaDoor.Fw
namespace Go.Proofs.YtihjdodmlddffaaDoor.Fw
open Go.RowKit
set_option linter.unusedVariables false
set_option linter.unusedSimpArgs false
theorem inR_iffP {n lo hi : Int} : inR n lo hi = true ↔ lo ≤ n ∧ n ≤ hi := by unfold inR; simp
def rotP : Nat → Int → Int → Int × Int
  | 0, x, y => (x, y)
  | k + 1, x, y => rotP k (-y) x
def turnX (x y t : Int) : Int × Int := rotP (t.toNat % 4) (if 3 < t then -x else x) y
theorem rotP_le (k : Nat) : ∀ x y : Int, -20000 ≤ x → x ≤ 20000 → -20000 ≤ y → y ≤ 20000 → -20000 ≤ (rotP k x y).1 ∧ (rotP k x y).1 ≤ 20000 ∧ -20000 ≤ (rotP k x y).2 ∧ (rotP k x y).2 ≤ 20000 := by
  induction k with
  | zero => intro x y h1 h2 h3 h4; exact ⟨h1, h2, h3, h4⟩
  | succ k ih => intro x y h1 h2 h3 h4; exact ih (-y) x (by omega) (by omega) (by omega) (by omega)
theorem turnX_le {x y t : Int} (h1 : -20000 ≤ x) (h2 : x ≤ 20000) (h3 : -20000 ≤ y) (h4 : y ≤ 20000) : -20000 ≤ (turnX x y t).1 ∧ (turnX x y t).1 ≤ 20000 ∧ -20000 ≤ (turnX x y t).2 ∧ (turnX x y t).2 ≤ 20000 := by
  unfold turnX
  refine rotP_le _ _ _ ?_ ?_ h3 h4 <;> split <;> omega
theorem rot_loop (k : Nat) : ∀ x y : Int, k ≤ 10 → -20000 ≤ x → x ≤ 20000 → -20000 ≤ y → y ≤ 20000 → iter G.i_Turned.s0 (x, y, (k : Int)) = some (.inl (rotP k x y)) := by
  induction k with
  | zero =>
    intro x y _ h1 h2 h3 h4
    refine iter_inr ?_
    simp only [G.i_Turned.s0]
    rw [decide_eq_false (by omega)]
    rfl
  | succ k ih =>
    intro x y hk h1 h2 h3 h4
    have hst : G.i_Turned.s0 (x, y, ((k + 1 : Nat) : Int)) = some (.inl (-y, x, (k : Int))) := by
      simp only [G.i_Turned.s0]
      rw [decide_eq_true (by omega), cond_true, wrap64 (x := 0 - y) (by omega) (by omega), wrap64 (by omega) (by omega), Int.zero_sub]
      congr 4
      omega
    rw [iter_inl hst]
    exact ih (-y) x (by omega) (by omega) (by omega) (by omega) (by omega)
theorem p_Turned (x y t : Int) (h1 : -20000 ≤ x) (h2 : x ≤ 20000) (h3 : -20000 ≤ y) (h4 : y ≤ 20000) (h5 : 0 ≤ t) (h6 : t ≤ 7) : G.i_Turned x y t = some ⟨(turnX x y t).1, (turnX x y t).2⟩ := by
  have w1 : inR t 0 7 = true := inR_iffP.2 ⟨h5, h6⟩
  have w2 : inR x (-20000) 20000 = true := inR_iffP.2 ⟨h1, h2⟩
  have w3 : inR y (-20000) 20000 = true := inR_iffP.2 ⟨h3, h4⟩
  have hm : t.tmod 4 = ((t.toNat % 4 : Nat) : Int) := by rw [Int.tmod_eq_emod_of_nonneg h5]; omega
  have hk : t.toNat % 4 ≤ 10 := by omega
  unfold G.i_Turned turnX
  simp only [p_within, w1, w2, w3, Option.bind_some, cond_true, cond_false, Bool.not_true, hm]
  by_cases c : 3 < t
  · rw [decide_eq_true c, if_pos c]
    simp only [cond_true, Option.bind_some]
    rw [wrap64 (x := 0 - x) (by omega) (by omega), Int.zero_sub, rot_loop _ _ _ hk (by omega) (by omega) h3 h4]
    rfl
  · rw [decide_eq_false c, if_neg c]
    simp only [cond_false, Option.bind_some]
    rw [rot_loop _ _ _ hk h1 h2 h3 h4]
    rfl
theorem p_TurnedAny (x y t : Int) : ∃ p, G.i_Turned x y t = some p := by
  by_cases h1 : inR t 0 7 = true
  · by_cases h2 : inR x (-20000) 20000 = true
    · by_cases h3 : inR y (-20000) 20000 = true
      · have a := inR_iffP.1 h1
        have b := inR_iffP.1 h2
        have c := inR_iffP.1 h3
        exact ⟨_, p_Turned x y t b.1 b.2 c.1 c.2 a.1 a.2⟩
      · have h3 : inR y (-20000) 20000 = false := by simpa using h3
        unfold G.i_Turned
        simp only [p_within, h1, h2, h3, Option.bind_some, cond_true, cond_false, Bool.not_true, Bool.not_false]
        exact ⟨_, rfl⟩
    · have h2 : inR x (-20000) 20000 = false := by simpa using h2
      unfold G.i_Turned
      simp only [p_within, h1, h2, Option.bind_some, cond_true, cond_false, Bool.not_true, Bool.not_false]
      exact ⟨_, rfl⟩
  · have h1 : inR t 0 7 = false := by simpa using h1
    unfold G.i_Turned
    simp only [p_within, h1, Option.bind_some, cond_true, cond_false, Bool.not_true, Bool.not_false]
    exact ⟨_, rfl⟩
theorem eight {t : Int} (h1 : 0 ≤ t) (h2 : t ≤ 7) : t = 0 ∨ t = 1 ∨ t = 2 ∨ t = 3 ∨ t = 4 ∨ t = 5 ∨ t = 6 ∨ t = 7 := by omega
theorem p_InverseT (t : Int) (h1 : 0 ≤ t) (h2 : t ≤ 7) : ∃ b, G.i_InverseTurn t = some (b, 0) ∧ 0 ≤ b ∧ b ≤ 7 ∧ ∀ x y, turnX (turnX x y t).1 (turnX x y t).2 b = (x, y) := by
  rcases eight h1 h2 with rfl | rfl | rfl | rfl | rfl | rfl | rfl | rfl <;> (first | exact ⟨0, rfl, by decide, by decide, fun x y => by simp [turnX, rotP]⟩ | exact ⟨1, rfl, by decide, by decide, fun x y => by simp [turnX, rotP]⟩ | exact ⟨2, rfl, by decide, by decide, fun x y => by simp [turnX, rotP]⟩ | exact ⟨3, rfl, by decide, by decide, fun x y => by simp [turnX, rotP]⟩ | exact ⟨4, rfl, by decide, by decide, fun x y => by simp [turnX, rotP]⟩ | exact ⟨5, rfl, by decide, by decide, fun x y => by simp [turnX, rotP]⟩ | exact ⟨6, rfl, by decide, by decide, fun x y => by simp [turnX, rotP]⟩ | exact ⟨7, rfl, by decide, by decide, fun x y => by simp [turnX, rotP]⟩)
theorem turnX_norm (x y t : Int) (h1 : 0 ≤ t) (h2 : t ≤ 7) : (turnX x y t).1 * (turnX x y t).1 + (turnX x y t).2 * (turnX x y t).2 = x * x + y * y := by
  rcases eight h1 h2 with rfl | rfl | rfl | rfl | rfl | rfl | rfl | rfl <;> simp [turnX, rotP, Int.neg_mul_neg] <;> omega
theorem p_Compose (a b : Int) (h1 : 0 ≤ a) (h2 : a ≤ 7) (h3 : 0 ≤ b) (h4 : b ≤ 7) : ∃ c, G.i_ComposeTurns a b = some (c, 0) ∧ 0 ≤ c ∧ c ≤ 7 ∧ ∀ x y, turnX (turnX x y a).1 (turnX x y a).2 b = turnX x y c := by
  rcases eight h1 h2 with rfl | rfl | rfl | rfl | rfl | rfl | rfl | rfl <;> rcases eight h3 h4 with rfl | rfl | rfl | rfl | rfl | rfl | rfl | rfl <;> (first | exact ⟨0, rfl, by decide, by decide, fun x y => by simp [turnX, rotP]⟩ | exact ⟨1, rfl, by decide, by decide, fun x y => by simp [turnX, rotP]⟩ | exact ⟨2, rfl, by decide, by decide, fun x y => by simp [turnX, rotP]⟩ | exact ⟨3, rfl, by decide, by decide, fun x y => by simp [turnX, rotP]⟩ | exact ⟨4, rfl, by decide, by decide, fun x y => by simp [turnX, rotP]⟩ | exact ⟨5, rfl, by decide, by decide, fun x y => by simp [turnX, rotP]⟩ | exact ⟨6, rfl, by decide, by decide, fun x y => by simp [turnX, rotP]⟩ | exact ⟨7, rfl, by decide, by decide, fun x y => by simp [turnX, rotP]⟩)
theorem p_b10At (c : List Int) (hc : bytesOk c) : ∃ v, G.l_b10At c 0 8 = some v ∧ 0 ≤ v ∧ v ≤ 7 := by
  unfold G.l_b10At
  rw [decide_eq_false (by omega), cond_false]
  by_cases h : (0 : Int) < ((c.length : Nat) : Int)
  · have hb := hc.2 _ (mem_getD (l := c) (i := (0 : Int).toNat) (by omega))
    rw [decide_eq_true h, cond_true, if_pos ⟨by omega, h⟩, if_neg (by omega), wrap64 (by omega) (by omega)]
    have := Int.tmod_lt_of_pos (c.getD (0 : Int).toNat default) (show (0 : Int) < 8 by omega)
    exact ⟨_, rfl, Int.tmod_nonneg _ hb.1, by omega⟩
  · rw [decide_eq_false h]
    exact ⟨_, rfl, by decide, by decide⟩
/-- The first choice is passed. -/
theorem pts_j0 (m : List Int) (hm : bytesOk m) (p : TPoint) (t : Int) : ∃ q5 q6, G.i_InverseTurn t = some q5 ∧ G.i_Turned p.X p.Y t = some q6 ∧ G.l_FnPoints.j0 m (p, t) q5 q6 = some (.inl ()) := by
  obtain ⟨q6, e6⟩ := p_TurnedAny p.X p.Y t
  by_cases ht : 0 ≤ t ∧ t ≤ 7
  · obtain ⟨b, b1, b2, b3, b4⟩ := p_InverseT t ht.1 ht.2
    refine ⟨_, q6, b1, e6, ?_⟩
    unfold G.l_FnPoints.j0
    simp only [decide_true, cond_true, Option.bind_some]
    cases h1 : decide ((-20000 : Int) ≤ p.X)
    · rfl
    · cases h2 : decide (p.X ≤ (20000 : Int))
      · rfl
      · cases h3 : decide ((-20000 : Int) ≤ p.Y)
        · rfl
        · cases h4 : decide (p.Y ≤ (20000 : Int))
          · rfl
          · have g1 := of_decide_eq_true h1
            have g2 := of_decide_eq_true h2
            have g3 := of_decide_eq_true h3
            have g4 := of_decide_eq_true h4
            have hT := p_Turned p.X p.Y t g1 g2 g3 g4 ht.1 ht.2
            rw [hT] at e6
            obtain rfl := Option.some.inj e6
            obtain ⟨l1, l2, l3, l4⟩ := turnX_le (t := t) g1 g2 g3 g4
            have hn := turnX_norm p.X p.Y t ht.1 ht.2
            have hB := p_Turned (turnX p.X p.Y t).1 (turnX p.X p.Y t).2 b l1 l2 l3 l4 b2 b3
            rw [b4] at hB
            obtain ⟨v, v1, v2, v3⟩ := p_b10At m hm
            obtain ⟨c, c1, c2, c3, c4⟩ := p_Compose t v ht.1 ht.2 v2 v3
            have hC := p_Turned (turnX p.X p.Y t).1 (turnX p.X p.Y t).2 v l1 l2 l3 l4 v2 v3
            rw [c4] at hC
            have hD := p_Turned p.X p.Y c g1 g2 g3 g4 c2 c3
            have sq : ∀ z : Int, -20000 ≤ z → z ≤ 20000 → 0 ≤ z * z ∧ z * z ≤ 400000000 := fun z z1 z2 => by
              by_cases hz : 0 ≤ z
              · exact ⟨Int.mul_nonneg hz hz, by have := Int.mul_le_mul z2 z2 hz (by omega); omega⟩
              · rw [← Int.neg_mul_neg]
                exact ⟨Int.mul_nonneg (by omega) (by omega), by have := Int.mul_le_mul (show -z ≤ 20000 by omega) (show -z ≤ 20000 by omega) (by omega) (by omega); omega⟩
            have s1 := sq _ l1 l2
            have s2 := sq _ l3 l4
            have s3 := sq _ g1 g2
            have s4 := sq _ g3 g4
            simp only [cond_true, Option.bind_some, hB, decide_true, Bool.and_self]
            rw [wrap64 (x := (turnX p.X p.Y t).1 * (turnX p.X p.Y t).1) (by omega) (by omega), wrap64 (x := (turnX p.X p.Y t).2 * (turnX p.X p.Y t).2) (by omega) (by omega), wrap64 (x := p.X * p.X) (by omega) (by omega), wrap64 (x := p.Y * p.Y) (by omega) (by omega), wrap64 (x := (turnX p.X p.Y t).1 * (turnX p.X p.Y t).1 + (turnX p.X p.Y t).2 * (turnX p.X p.Y t).2) (by omega) (by omega), wrap64 (x := p.X * p.X + p.Y * p.Y) (by omega) (by omega), hn]
            simp only [decide_true, Bool.not_true, cond_false, Option.bind_some, v1, c1, cond_true, hC, hD, Bool.and_self]
  · have w1 : inR t 0 7 = false := by
      cases h : inR t 0 7
      · rfl
      · exact absurd (inR_iffP.1 h) ht
    refine ⟨(0, 2), q6, ?_, e6, ?_⟩
    · unfold G.i_InverseTurn
      rw [p_within, w1]; rfl
    · rfl
end Go.Proofs.YtihjdodmlddffaaDoor.Fw
namespace Go.Proofs.YtihjdodmlddffaaDoor.Fw
open Go.RowKit
set_option linter.unusedVariables false
set_option linter.unusedSimpArgs false
theorem p_Draw2 {c : List Int} (hc : bytesOk c) {m : Int} (hm : m ≤ 1000000) {s : Tl00Src} (h : srcOk c m s) : ∃ s' p, G.s_l02Draw s.code s.at_ s.seed = some (s', p) ∧ srcOk c (m + 6) s' := by
  obtain ⟨s1, k, e1, k1, a1, b1⟩ := p_pick hc (m := m) (by omega) h 5 (by omega)
  unfold G.s_l02Draw
  rw [e1, Option.bind_some]
  simp only []
  by_cases c0 : k = 0
  · obtain ⟨s2, x, e2, k2, _⟩ := p_pick hc (m := m + 2) (by omega) k1 5 (by omega)
    obtain ⟨s3, y, e3, k3, _⟩ := p_pick hc (m := m + 2 + 2) (by omega) k2 5 (by omega)
    rw [decide_eq_true c0, cond_true, e2, Option.bind_some, e3, Option.bind_some]
    exact ⟨_, _, rfl, k3.mono (by omega)⟩
  · rw [decide_eq_false c0, cond_false]
    by_cases c1 : k = 1
    · obtain ⟨s2, x, e2, k2, _⟩ := p_among hc (m := m + 2) (by omega) k1 [0, 10, 20000, 19999, 1] (by simp) (by simp)
      obtain ⟨s3, y, e3, k3, _⟩ := p_among hc (m := m + 2 + 2) (by omega) k2 [0, 10, 20000, 19999, 1] (by simp) (by simp)
      rw [decide_eq_true c1, cond_true, e2, Option.bind_some, e3, Option.bind_some]
      exact ⟨_, _, rfl, k3.mono (by omega)⟩
    · obtain ⟨s2, x, e2, k2, _⟩ := p_pick hc (m := m + 2) (by omega) k1 2000 (by omega)
      obtain ⟨s3, y, e3, k3, _⟩ := p_pick hc (m := m + 2 + 2) (by omega) k2 2000 (by omega)
      rw [decide_eq_false c1, cond_false, e2, Option.bind_some, e3, Option.bind_some]
      exact ⟨_, _, rfl, k3.mono (by omega)⟩
theorem p_Bent {c : List Int} (hc : bytesOk c) {m : Int} (hm : m ≤ 100000) {s : Tl00Src} (h : srcOk c m s) : ∃ s' p, G.s_l02Bent s.code s.at_ s.seed = some (s', p) ∧ srcOk c (m + 10) s' := by
  obtain ⟨s1, p, e1, k1⟩ := p_Draw2 hc (m := m) (by omega) h
  obtain ⟨s2, k, e2, k2, a2, b2⟩ := p_pick hc (m := m + 6) (by omega) k1 26 (by omega)
  unfold G.s_l02Bent
  rw [e1, Option.bind_some, e2, Option.bind_some]
  simp only []
  by_cases c0 : k = 0
  · obtain ⟨s3, x, e3, k3, _⟩ := p_among hc (m := m + 6 + 2) (by omega) k2 [-1, 20001] (by simp) (by simp)
    rw [decide_eq_true c0, cond_true, e3]
    exact ⟨_, _, rfl, k3.mono (by omega)⟩
  · rw [decide_eq_false c0, cond_false]
    by_cases c1 : k = 1
    · obtain ⟨s3, x, e3, k3, _⟩ := p_among hc (m := m + 6 + 2) (by omega) k2 [-1, 20001, 9223372036854775807] (by simp) (by simp)
      rw [decide_eq_true c1, cond_true, e3]
      exact ⟨_, _, rfl, k3.mono (by omega)⟩
    · rw [decide_eq_false c1, cond_false]
      exact ⟨_, _, rfl, k2.mono (by omega)⟩
theorem p_DrawTurn {c : List Int} (hc : bytesOk c) {m : Int} (hm : m ≤ 100000) {s : Tl00Src} (h : srcOk c m s) : ∃ r, G.s_l02DrawTurn s.code s.at_ s.seed = some r := by
  obtain ⟨s1, b, e1, k1⟩ := p_one hc (m := m) (by omega) h 10 (by omega)
  unfold G.s_l02DrawTurn
  rw [e1, Option.bind_some]
  simp only []
  cases b
  · obtain ⟨s2, v, e2, k2, _⟩ := p_pick hc (m := m + 2) (by omega) k1 8 (by omega)
    rw [cond_false, e2]
    exact ⟨_, rfl⟩
  · obtain ⟨s2, v, e2, k2, _⟩ := p_among hc (m := m + 2) (by omega) k1 [-1, 8] (by simp) (by simp)
    rw [cond_true, e2]
    exact ⟨_, rfl⟩
theorem p_DrawTurned (c : List Int) (hc : bytesOk c) : ∃ p t, G.s_DrawTurned c = some (p, t) := by
  obtain ⟨s1, p, e1, k1⟩ := p_Bent hc (m := 0) (by omega) (s := Tl00Src.mk c 0 0) ⟨rfl, Int.le_refl _, Int.le_refl _⟩
  have e1 : G.s_l02Bent c 0 0 = some (s1, p) := e1
  obtain ⟨s2, b, e2, k2⟩ := p_one hc (m := 0 + 10) (by omega) k1 3 (by omega)
  unfold G.s_DrawTurned G.s_l00From
  simp only [Option.bind_some, e1, e2]
  cases b
  · obtain ⟨r, e3⟩ := p_DrawTurn hc (m := 0 + 10 + 2) (by omega) k2
    simp only [cond_false, Option.bind_some, e3]
    exact ⟨_, _, rfl⟩
  · obtain ⟨s3, v, e3, k3, _⟩ := p_among hc (m := 0 + 10 + 2) (by omega) k2 [-20000, -20001, 5, -7] (by simp) (by simp)
    obtain ⟨r, e4⟩ := p_DrawTurn hc (m := 0 + 10 + 2 + 2) (by omega) k3
    simp only [cond_true, Option.bind_some, e3, e4]
    exact ⟨_, _, rfl⟩
theorem p_DrawDistance (c : List Int) (hc : bytesOk c) : ∃ a b, G.s_DrawDistance c = some (a, b) := by
  obtain ⟨s1, p, e1, k1⟩ := p_Bent hc (m := 0) (by omega) (s := Tl00Src.mk c 0 0) ⟨rfl, Int.le_refl _, Int.le_refl _⟩
  have e1 : G.s_l02Bent c 0 0 = some (s1, p) := e1
  obtain ⟨s2, q, e2, k2⟩ := p_Bent hc (m := 0 + 10) (by omega) k1
  unfold G.s_DrawDistance G.s_l00From
  simp only [Option.bind_some, e1, e2]
  exact ⟨_, _, rfl⟩
def ptOk (x y : Int) : Bool := inR x 0 20000 && inR y 0 20000
theorem p_sValid (x y : Int) : G.s_ValidPoint x y = some (ptOk x y) := by
  unfold G.s_ValidPoint G.s_l02Ok ptOk
  simp only [p_l00In, Option.bind_some]
  cases inR x 0 20000 <;> rfl
theorem p_iValid (x y : Int) : G.i_ValidPoint x y = some (ptOk x y) := by
  unfold G.i_ValidPoint ptOk
  simp only [p_within, Option.bind_some]
  cases inR x 0 20000 <;> rfl
theorem ptOk_iff {x y : Int} : ptOk x y = true ↔ (0 ≤ x ∧ x ≤ 20000) ∧ (0 ≤ y ∧ y ≤ 20000) := by
  unfold ptOk
  rw [Bool.and_eq_true, inR_iffP, inR_iffP]
theorem p_two (a b : TPoint) : G.i_validPoints [a, b] = some (ptOk a.X a.Y && ptOk b.X b.Y) := by
  have h := iter_scan (step := G.i_validPoints.s0 [a, b]) (n := 2) (p := fun i => ptOk (([a, b] : List TPoint).getD i default).X (([a, b] : List TPoint).getD i default).Y) (v := ()) (r := false) ?_ ?_ 2 0 (by omega)
  · have h : iter (G.i_validPoints.s0 [a, b]) (0 : Int) = some (if (ptOk a.X a.Y && (ptOk b.X b.Y && true)) = true then .inl () else .inr false) := h
    unfold G.i_validPoints
    rw [h, Bool.and_true]
    cases ptOk a.X a.Y && ptOk b.X b.Y <;> rfl
  · intro i hi
    have gl : ((([a, b] : List TPoint).length : Nat) : Int) = 2 := rfl
    simp only [G.i_validPoints.s0, Int.toNat_natCast, gl]
    rw [decide_eq_true (by omega), cond_true, if_pos ⟨by omega, by omega⟩, p_iValid, Option.bind_some, wrap64 (by omega) (by omega)]
    cases ptOk (([a, b] : List TPoint).getD i default).X (([a, b] : List TPoint).getD i default).Y <;> rfl
  · have gl : ((([a, b] : List TPoint).length : Nat) : Int) = 2 := rfl
    simp only [G.i_validPoints.s0, gl]
    rw [decide_eq_false (by omega), cond_false]
theorem sq_le (z : Int) (z1 : -20000 ≤ z) (z2 : z ≤ 20000) : 0 ≤ z * z ∧ z * z ≤ 400000000 := by
  by_cases hz : 0 ≤ z
  · exact ⟨Int.mul_nonneg hz hz, by have := Int.mul_le_mul z2 z2 hz (by omega); omega⟩
  · rw [← Int.neg_mul_neg]
    exact ⟨Int.mul_nonneg (by omega) (by omega), by have := Int.mul_le_mul (show -z ≤ 20000 by omega) (show -z ≤ 20000 by omega) (by omega) (by omega); omega⟩
theorem p_rootAny (n : Int) (h0 : 0 ≤ n) (hn : n ≤ 1000000000) : ∃ r, G.i_RootOf n = some r ∧ 0 ≤ r ∧ r ≤ 40000 ∧ r * r ≤ n := by
  by_cases g : n < 1
  · exact ⟨0, p_RootOf0 n g, by omega, by omega, by omega⟩
  · obtain ⟨r, r1, r2, r3, r4, r5⟩ := p_RootOf n (by omega) (by omega)
    refine ⟨r, r1, by omega, ?_, r4⟩
    by_cases h : r ≤ 40000
    · exact h
    · have := Int.mul_le_mul (show (40001 : Int) ≤ r by omega) (show (40001 : Int) ≤ r by omega) (by omega) (by omega)
      omega
/-- Both distances, and that the square is not greater. -/
theorem p_dist (a b : TPoint) : ∃ d, G.i_Distance a.X a.Y b.X b.Y = some d ∧ G.i_Distance b.X b.Y a.X a.Y = some d ∧ (ptOk a.X a.Y = true → ptOk b.X b.Y = true →
    decide (IntKind.wrap .i64 (IntKind.wrap .i64 (IntKind.wrap .i64 (a.X - b.X) * IntKind.wrap .i64 (a.X - b.X)) + IntKind.wrap .i64 (IntKind.wrap .i64 (a.Y - b.Y) * IntKind.wrap .i64 (a.Y - b.Y))) < IntKind.wrap .i64 (d * d)) = false ∧ decide (d < 0) = false) := by
  unfold G.i_Distance
  rw [p_two ⟨a.X, a.Y⟩ ⟨b.X, b.Y⟩, p_two ⟨b.X, b.Y⟩ ⟨a.X, a.Y⟩, Option.bind_some, Option.bind_some]
  simp only []
  by_cases hv : ptOk a.X a.Y = true ∧ ptOk b.X b.Y = true
  · have ha := ptOk_iff.1 hv.1
    have hb := ptOk_iff.1 hv.2
    have s1 := sq_le (a.X - b.X) (by omega) (by omega)
    have s2 := sq_le (a.Y - b.Y) (by omega) (by omega)
    have e1 : (b.X - a.X) * (b.X - a.X) = (a.X - b.X) * (a.X - b.X) := by rw [← Int.neg_mul_neg]; congr 1 <;> omega
    have e2 : (b.Y - a.Y) * (b.Y - a.Y) = (a.Y - b.Y) * (a.Y - b.Y) := by rw [← Int.neg_mul_neg]; congr 1 <;> omega
    obtain ⟨r, r1, r2, r3, r4⟩ := p_rootAny ((a.X - b.X) * (a.X - b.X) + (a.Y - b.Y) * (a.Y - b.Y)) (by omega) (by omega)
    have s3 := sq_le r (by omega)
    have hr : 0 ≤ r * r := Int.mul_nonneg r2 r2
    rw [hv.1, hv.2]
    unfold G.i_squared
    simp only [Bool.and_self, cond_true, Option.bind_some]
    rw [wrap64 (x := a.X - b.X) (by omega) (by omega), wrap64 (x := a.Y - b.Y) (by omega) (by omega), wrap64 (x := b.X - a.X) (by omega) (by omega), wrap64 (x := b.Y - a.Y) (by omega) (by omega), e1, e2, wrap64 (x := (a.X - b.X) * (a.X - b.X)) (by omega) (by omega), wrap64 (x := (a.Y - b.Y) * (a.Y - b.Y)) (by omega) (by omega), wrap64 (x := (a.X - b.X) * (a.X - b.X) + (a.Y - b.Y) * (a.Y - b.Y)) (by omega) (by omega), r1]
    refine ⟨r, rfl, rfl, fun _ _ => ⟨?_, decide_eq_false (by omega)⟩⟩
    rw [wrap64 (x := r * r) (by omega) (by omega)]
    exact decide_eq_false (by omega)
  · have h1 : (ptOk a.X a.Y && ptOk b.X b.Y) = false := by
      cases h : ptOk a.X a.Y
      · rfl
      · cases h2 : ptOk b.X b.Y
        · rfl
        · exact absurd ⟨h, h2⟩ hv
    have h2 : (ptOk b.X b.Y && ptOk a.X a.Y) = false := by rw [Bool.and_comm]; exact h1
    rw [h1, h2]
    exact ⟨-1, rfl, rfl, fun g1 g2 => absurd ⟨g1, g2⟩ hv⟩
theorem index_app (l r : List UInt8) (h : (44 : UInt8) ∉ l) : Go.Lib.index (l ++ 44 :: r) [44] = (l.length : Int) := by
  induction l with
  | nil => simp [Go.Lib.index]
  | cons a l ih =>
    have h1 : a ≠ 44 := fun e => h (by rw [e]; exact List.mem_cons_self ..)
    have hi := ih fun h2 => h (List.mem_cons_of_mem _ h2)
    rw [List.cons_append, Go.Lib.index, if_neg (by simp [Ne.symm h1]), hi, if_neg (by simp)]
    simp
theorem app_dataP (a b : ByteArray) : (a ++ b).data.toList = a.data.toList ++ b.data.toList := by
  rw [ByteArray.data_append, Array.toList_append]
theorem app_sizeP (a b : ByteArray) : (a ++ b).size = a.size + b.size := by
  rw [size_data, size_data, size_data, app_dataP, List.length_append]
/-- A point is read back from its text. -/
theorem p_back (x y : Int) : ∃ t r, G.i_PointText x y = some t ∧ G.i_ReadPoint t = some r ∧ r.2 = ptOk x y ∧ (ptOk x y = true → r.1.X = x ∧ r.1.Y = y) := by
  cases hv : ptOk x y
  · refine ⟨⟨#[]⟩, (⟨0, 0⟩, false), ?_, ?_, rfl, fun h => by cases h⟩
    · unfold G.i_PointText
      rw [p_iValid, hv]; rfl
    · have hc : G.strings_Cut ⟨#[]⟩ (⟨#[44]⟩ : ByteArray) = some (⟨#[]⟩, ⟨#[]⟩, false) := by
        unfold G.strings_Cut
        rw [if_pos (by decide)]
        have : Go.Lib.cut (⟨#[]⟩ : ByteArray).data.toList (⟨#[44]⟩ : ByteArray).data.toList = ([], [], false) := by decide
        unfold extCut
        rw [this]
      have hr := p_ReadDecimal ⟨#[]⟩ (by decide)
      have hn : numR ⟨#[]⟩ = (0, false) := by decide
      unfold G.i_ReadPoint
      rw [hc, Option.bind_some, hr, hn]
      rfl
  · have hxy := ptOk_iff.1 hv
    have s1 := b_size x (by omega)
    have s2 := b_size y (by omega)
    have hone : (⟨#[44]⟩ : ByteArray).size = 1 := rfl
    refine ⟨(⟨(Go.Lib.itoa x).toArray⟩ ++ (⟨#[44]⟩ : ByteArray)) ++ ⟨(Go.Lib.itoa y).toArray⟩, (⟨x, y⟩, true), ?_, ?_, rfl, fun _ => ⟨rfl, rfl⟩⟩
    · unfold G.i_PointText
      rw [p_iValid, hv, Option.bind_some, cond_true, b_Decimal x (by omega) (by omega), Option.bind_some, if_neg (by omega), b_Decimal y (by omega) (by omega), Option.bind_some, if_neg (by omega)]
    · have hd : ((⟨(Go.Lib.itoa x).toArray⟩ ++ (⟨#[44]⟩ : ByteArray)) ++ ⟨(Go.Lib.itoa y).toArray⟩ : ByteArray).data.toList = Go.Lib.itoa x ++ 44 :: Go.Lib.itoa y := by
        simp only [app_dataP, List.append_assoc]
        simp
      have hc : G.strings_Cut ((⟨(Go.Lib.itoa x).toArray⟩ ++ (⟨#[44]⟩ : ByteArray)) ++ ⟨(Go.Lib.itoa y).toArray⟩) (⟨#[44]⟩ : ByteArray) = some (⟨(Go.Lib.itoa x).toArray⟩, ⟨(Go.Lib.itoa y).toArray⟩, true) := by
        unfold G.strings_Cut
        rw [if_pos (by simp only [app_sizeP]; omega)]
        have hcut : Go.Lib.cut (Go.Lib.itoa x ++ 44 :: Go.Lib.itoa y) [44] = (Go.Lib.itoa x, Go.Lib.itoa y, true) := by
          unfold Go.Lib.cut
          rw [index_app _ _ (itoa_free x (.inl rfl)), if_pos (by omega)]
          simp
        have h44 : (⟨#[44]⟩ : ByteArray).data.toList = [44] := rfl
        unfold extCut
        rw [hd, h44, hcut]
      unfold G.i_ReadPoint
      rw [hc, Option.bind_some]
      simp only [b_ReadDecimal x (by omega), b_ReadDecimal y (by omega), Option.bind_some, cond_true, p_iValid, hv]
theorem pts_j1 (m : List Int) (hm : bytesOk m) : G.l_FnPoints.j1 m = some true := by
  obtain ⟨a, b, e⟩ := p_DrawDistance m hm
  obtain ⟨d, d1, d2, d3⟩ := p_dist a b
  obtain ⟨t, r, t1, t2, t3, t4⟩ := p_back a.X a.Y
  unfold G.l_FnPoints.j1
  rw [e, Option.bind_some]
  simp only []
  rw [d1, Option.bind_some, d2, Option.bind_some]
  simp only [decide_true, cond_true, p_sValid, Option.bind_some, t1, t2, t3]
  have hend : ((bif (ptOk a.X a.Y == ptOk a.X a.Y) then (bif ptOk a.X a.Y then (some ((decide (r.1.X = a.X)) && (decide (r.1.Y = a.Y)))) else (some true)) else (some false)) : Option Bool) = some true := by
    cases hv : ptOk a.X a.Y
    · rfl
    · obtain ⟨g1, g2⟩ := t4 hv
      rw [g1, g2]
      simp
  rw [hend]
  cases hv : ptOk a.X a.Y
  · rfl
  · cases hw : ptOk b.X b.Y
    · rfl
    · obtain ⟨g1, g2⟩ := d3 hv hw
      simp only [cond_true, g1, g2, cond_false, Option.bind_some]
theorem law_Points (c m : List Int) (hc : ∀ x ∈ c, 0 ≤ x ∧ x ≤ 255) (hm : ∀ x ∈ m, 0 ≤ x ∧ x ≤ 255) : G.l_FnPoints c m = some true := by
  unfold G.l_FnPoints G.l_b10Long
  by_cases c1 : (1048576 : Int) < ((c.length : Nat) : Int)
  · rw [decide_eq_true c1]; rfl
  · rw [decide_eq_false c1, Option.bind_some, cond_false, Option.bind_some]
    by_cases c2 : (1048576 : Int) < ((m.length : Nat) : Int)
    · rw [decide_eq_true c2]; rfl
    · rw [decide_eq_false c2, Option.bind_some, cond_false]
      have hc : bytesOk c := ⟨by omega, hc⟩
      have hm : bytesOk m := ⟨by omega, hm⟩
      obtain ⟨p, t, e⟩ := p_DrawTurned c hc
      obtain ⟨q5, q6, e5, e6, e7⟩ := pts_j0 m hm p t
      rw [e, Option.bind_some]
      simp only []
      rw [e5, Option.bind_some, e6, Option.bind_some, e7]
      exact pts_j1 m hm
theorem ret_FnPoints (nl : Bool) (rows : List (List CV)) (hl : rows.length ≤ 9223372036854775807) (_ : nl = true → rows = []) (hr : ∀ r ∈ rows, Okl [.int .u8] r) (nl2 : Bool) (rows2 : List (List CV)) (hl2 : rows2.length ≤ 9223372036854775807) (_ : nl2 = true → rows2 = []) (hr2 : ∀ r ∈ rows2, Okl [.int .u8] r) :
    Ret Tryd.prog 4 none [.c (.sl nl false 1 rows), .c (.sl nl2 false 1 rows2)] [] (.c (.v (.bool true))) := by
  obtain ⟨a, rfl, ha⟩ := bytes_in hr
  obtain ⟨b, rfl, hb⟩ := bytes_in hr2
  exact Ret.args (by simp [AV.lo]) (AWkL.cons (AWk.c CWk.sl) (AWkL.cons (AWk.c CWk.sl) AWkL.nil)) (ret_l_FnPoints a b (law_Points a b ha hb))
end Go.Proofs.YtihjdodmlddffaaDoor.Fw
