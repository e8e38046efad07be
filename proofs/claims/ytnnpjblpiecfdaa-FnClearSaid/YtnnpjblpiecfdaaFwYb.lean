/- Lists of rows, read and filled in loops. -/
import Derived.Test.YtnnpjblpiecfdaaFwY
namespace Go.Proofs.Ytnnpjblpiecfdaa.Fw
open Go.RowKit
set_option linter.unusedVariables false
set_option linter.unusedSimpArgs false

section
variable {q : Bool} {P : Program} {T : Tab} {E : Entry} {ops : Array Oper} {rest : List Oper} {dst : Option Tmp} {s : AState} {K : AState → Prop} {Q : APost}

theorem getD_map {α : Type} [Inhabited α] {β : Type} (bs : List α) (f : α → β) (z : β) (i : Nat) (h : i < bs.length) : (bs.map f).getD i z = f (bs.getD i default) := by
  simp [List.getD_eq_getElem?_getD, h]
/-- An element's address. -/
theorem Val_row {α : Type} [Inhabited α] {bs : List α} {f : α → List CV} {i : Nat} {c : Prop} [Decidable c] (hc : c) (h : i < bs.length) (hk : arun q P T ops rest ((s.put dst (.c (.rp (f (bs.getD i default))))).bump) K) :
    Val q P T ops rest dst K s (if c then some (.c (.rp ((bs.map f).getD i []))) else none) := by
  rw [if_pos hc, getD_map bs f [] i h]
  exact hk
theorem nl_of {nl : Bool} {α : Type} {bs : List α} (hn : nl = true → bs = []) {i : Nat} (h : i < bs.length) : nl = false := by
  cases nl with
  | false => rfl
  | true => rw [hn rfl] at h; simp at h

def mix {α β : Type} (f : α → β) (z : β) (bs : List α) (i : Nat) : List β := (bs.take i).map f ++ List.replicate (bs.length - i) z
theorem mix_zero {α β : Type} (f : α → β) (z : β) (bs : List α) : mix f z bs 0 = List.replicate bs.length z := by simp [mix]
theorem mix_all {α β : Type} (f : α → β) (z : β) (bs : List α) {i : Nat} (h : bs.length ≤ i) : mix f z bs i = bs.map f := by
  simp [mix, List.take_of_length_le h, Nat.sub_eq_zero_of_le h]
theorem mix_len {α β : Type} (f : α → β) (z : β) (bs : List α) {i : Nat} (h : i ≤ bs.length) : (mix f z bs i).length = bs.length := by
  simp [mix, Nat.min_eq_left h]; omega
theorem mix_get {α β : Type} (f : α → β) (z : β) (bs : List α) {i : Nat} (h : i < bs.length) : (mix f z bs i)[i]? = some z := by
  unfold mix
  rw [List.getElem?_append_right (by simp; omega)]
  simp only [List.length_map, List.length_take]
  rw [List.getElem?_replicate, if_pos (by omega)]
theorem mix_set {α β : Type} [Inhabited α] (f : α → β) (z : β) (bs : List α) {i : Nat} (h : i < bs.length) : (mix f z bs i).set i (f (bs.getD i default)) = mix f z bs (i + 1) := by
  apply List.ext_getElem?
  intro j
  unfold mix
  rw [List.getElem?_set]
  by_cases hj : i = j
  · subst hj
    have hl : i < ((bs.take i).map f ++ List.replicate (bs.length - i) z).length := by simp; omega
    rw [if_pos rfl, if_pos hl, List.getElem?_append_left (by simp; omega)]
    simp [List.getD_eq_getElem?_getD, h]
  · rw [if_neg hj]
    by_cases hlt : j < i
    · rw [List.getElem?_append_left (by simp; omega), List.getElem?_append_left (by simp; omega)]
      simp only [List.getElem?_map, List.getElem?_take, if_pos hlt, if_pos (show j < i + 1 by omega)]
    · rw [List.getElem?_append_right (by simp; omega), List.getElem?_append_right (by simp; omega)]
      simp only [List.length_map, List.length_take, List.getElem?_replicate]
      split <;> split <;> first | rfl | omega

theorem rows_of {α : Type} {f : α → List CV} {p : α → Prop} : ∀ {rows : List (List CV)}, (∀ r ∈ rows, ∃ b, r = f b ∧ p b) → ∃ bs : List α, rows = bs.map f ∧ ∀ b ∈ bs, p b
  | [], _ => ⟨[], rfl, by simp⟩
  | r :: rows, h => by
    obtain ⟨b, hb, hp⟩ := h r (by simp)
    obtain ⟨bs, hbs, hps⟩ := rows_of (rows := rows) (fun r' hr' => h r' (List.mem_cons_of_mem _ hr'))
    refine ⟨b :: bs, by simp [hb, hbs], fun x hx => ?_⟩
    rcases List.mem_cons.1 hx with rfl | hx
    · exact hp
    · exact hps x hx
theorem drop_getD {α : Type} [Inhabited α] {bs : List α} {i : Nat} (h : i < bs.length) : bs.drop i = bs.getD i default :: bs.drop (i + 1) := by
  rw [List.drop_eq_getElem_cons h, List.getD_eq_getElem?_getD, List.getElem?_eq_getElem h, Option.getD_some]
def makesT (T : Tab) (nid : Nat) (l c : AV) : Option TI → Option (AV × Eff)
  | some ⟨.slice e, _, _, _⟩ => makes nid e (T.get e) l c
  | _ => none
theorem aeff_makeT (nid : Nat) (t : TypeId) (l c : Operand) : aeff T s nid (.makeSlice t l c) = makesT T nid (s.eval l) (s.eval c) (T.get t) := by
  cases h : T.get t with
  | none => simp [aeff, Tab.desc, h, makesT]
  | some i =>
    obtain ⟨d, n, b, z⟩ := i
    cases d with
    | slice e => exact aeff_make nid t e l c (by simp [Tab.desc, h])
    | _ => simp [aeff, Tab.desc, h, makesT]
theorem z12 {nid e : Nat} {j : TI} {l : Int} {b : Bool} (hb : b = true) (hk : arun q P T ops rest (((s.eff s.next (.new (.arr e j.size (List.replicate l.toNat j.zero)))).put dst (.lsl nid j.size 0 l.toNat)).bump) K) : Efx q P T ops rest dst K s (makesIf nid e j l b) := by
  subst hb
  exact hk
theorem z28 {l sz n e : Nat} {rows : List (List CV)} (h : s.objs l = some (.arr e sz rows)) (hn : n = rows.length) : snapA s (.lsl l sz 0 n) = some (.c (.sl false false sz rows)) := by
  subst hn
  simp [snapA, snap1, h]
theorem z22 {x y : AV} {xs ys : List AV} (h : snapA s x = some y) (hs : snapArgs s xs = some ys) : snapArgs s (x :: xs) = some (y :: ys) := by
  simp [snapArgs, h, hs]
theorem z21 : snapArgs s [] = some [] := by simp [snapArgs]
theorem z23 (y : CV) : snapA s (.c y) = some (.c y) := by simp [snapA, snap1]
theorem z24 (g : FuncId) : snapA s (.fn g []) = some (.c (.fn g [])) := by simp [snapA, snap1, snapL]
theorem z17 {nid : Nat} {f : FuncId} {xs : List AV} {K : AV → AState → Prop} (h : ∃ args, snapArgs s xs = some args ∧ ∃ r, Ret P f none args [] r ∧ r.plain = true ∧ K (r.av nid) (s.ret nid r)) : acall q P s nid f xs K := by
  obtain ⟨args, h1, r, h2, h3, h4⟩ := h
  exact acall_look h1 h2 h3 h4
theorem z16 {nid : Nat} {f : FuncId} {xs : List AV} {K : AV → AState → Prop} (h : ∃ r, Ret P f none xs [] r ∧ xs.all okArg = true ∧ K (r.av nid) (s.ret nid r)) : acall q P s nid f xs K := by
  obtain ⟨r, h2, h3, h4⟩ := h
  exact acall_in h2 h3 h4
theorem rdArr_some {n sz i off e : Nat} {rows : List (List CV)} {row : List CV} (h : rows[i]? = some row) : rdArr n sz i off (some (.arr e sz rows)) = exactly n (((row.drop off).take n).map .c) := by
  simp [rdArr, h]
theorem wrArr_some {cs : List AV} {l sz i off e : Nat} {rows : List (List CV)} {row vs : List CV} (h : rows[i]? = some row) (hc : toCVs cs = some vs) (hl : off + cs.length ≤ sz) : wrArr cs l sz i off (some (.arr e sz rows)) = some (l, .arr e sz (rows.set i (row.take off ++ (vs ++ row.drop (off + vs.length))))) := by
  simp [wrArr, h, hc, hl]
theorem below_succ {p : Nat → Prop} {i : Nat} (h : ∀ j, j < i → p j) (h1 : p i) : ∀ j, j < i + 1 → p j := fun j hj => by
  rcases Nat.lt_or_eq_of_le (Nat.le_of_lt_succ hj) with h2 | h2
  · exact h j h2
  · exact h2 ▸ h1
def allN (p : Nat → Bool) (n : Nat) : Bool := (List.range n).all p
theorem allN_false {p : Nat → Bool} {n i : Nat} (hi : i < n) (h : p i = false) : allN p n = false := by
  rw [Bool.eq_false_iff]
  intro hc
  have := List.all_eq_true.1 hc i (List.mem_range.2 hi)
  rw [h] at this
  cases this
theorem allN_true {p : Nat → Bool} {n i : Nat} (hi : n ≤ i) (h : ∀ j, j < i → p j = true) : allN p n = true :=
  List.all_eq_true.2 fun j hj => h j (by have := List.mem_range.1 hj; omega)
def ixOf (p : Nat → Bool) (n : Nat) : Int := match (List.range n).find? p with
  | some i => i
  | none => -1
theorem ixOf_at {p : Nat → Bool} {n i : Nat} (hi : i < n) (h : p i = true) (hall : ∀ j, j < i → (!p j) = true) : ixOf p n = i := by
  have : (List.range n).find? p = some i := List.find?_range_eq_some.2 ⟨h, List.mem_range.2 hi, hall⟩
  simp only [ixOf, this]
theorem ixOf_none {p : Nat → Bool} {n i : Nat} (hi : n ≤ i) (hall : ∀ j, j < i → (!p j) = true) : ixOf p n = -1 := by
  have : (List.range n).find? p = none := List.find?_range_eq_none.2 fun j hj => by simpa using hall j (by omega)
  simp only [ixOf, this]
theorem ixOf_nonneg (p : Nat → Bool) (n : Nat) : decide (0 ≤ ixOf p n) = !allN (fun i => !p i) n := by
  cases h : allN (fun i => !p i) n with
  | true =>
    rw [ixOf_none (i := n) (by omega) (fun j hj => List.all_eq_true.1 h j (List.mem_range.2 hj))]
    rfl
  | false =>
    unfold ixOf
    cases hf : (List.range n).find? p with
    | some i => simp
    | none =>
      exfalso
      have h2 := List.find?_range_eq_none.1 hf
      have h3 : allN (fun i => !p i) n = true := allN_true (i := n) (by omega) (fun j hj => by simpa using h2 j hj)
      rw [h] at h3
      cases h3
def strLt (a b : ByteArray) : Bool := Op.bytesLess a.toList b.toList
theorem str_beq (a b : ByteArray) : (a.toList == b.toList) = decide (a = b) := by
  by_cases h : a = b
  · simp [h]
  · have h2 : a.toList ≠ b.toList := fun e => h (bytes_ext e)
    simp [h, h2]
theorem abin_slt (t : TypeId) (a b : ByteArray) : abin T s .lss t (.c (.v (.string a))) (.c (.v (.string b))) = some (.c (.v (.bool (strLt a b)))) := by simp [abin, strBin, strLt]
theorem abin_sle (t : TypeId) (a b : ByteArray) : abin T s .leq t (.c (.v (.string a))) (.c (.v (.string b))) = some (.c (.v (.bool (strLt a b || decide (a = b))))) := by simp [abin, strBin, strLt, str_beq]
theorem abin_sgt (t : TypeId) (a b : ByteArray) : abin T s .gtr t (.c (.v (.string a))) (.c (.v (.string b))) = some (.c (.v (.bool (!(strLt a b || decide (a = b)))))) := by simp [abin, strBin, strLt, str_beq]
theorem abin_sge (t : TypeId) (a b : ByteArray) : abin T s .geq t (.c (.v (.string a))) (.c (.v (.string b))) = some (.c (.v (.bool (!(strLt a b))))) := by simp [abin, strBin, strLt]
def snapCons : Option CV → Option (List CV) → Option (List CV)
  | some y, some ys => some (y :: ys)
  | _, _ => none
def snapArr (sz off n : Nat) : Option AObj → Option CV
  | some (.arr _ sz' rows) => if sz = sz' ∧ off + n ≤ rows.length then some (.sl false false sz ((rows.drop off).take n)) else none
  | _ => none
theorem snapL_lsl (t : List AV) (ob : Nat → Option AObj) (nx k l sz off n : Nat) (xs : List AV) : snapL ⟨t, ob, nx⟩ (k + 2) (.lsl l sz off n :: xs) = snapCons (snapArr sz off n (ob l)) (snapL ⟨t, ob, nx⟩ (k + 1) xs) := by
  have h : snap1 ⟨t, ob, nx⟩ (k + 1) (.lsl l sz off n) = snapArr sz off n (ob l) := by
    simp only [snap1]; unfold snapArr; rfl
  simp only [snapL]
  rw [← h]
  cases snap1 ⟨t, ob, nx⟩ (k + 1) (.lsl l sz off n) <;> cases snapL ⟨t, ob, nx⟩ (k + 1) xs <;> rfl
theorem take_map_len {α β : Type} (f : α → β) (xs : List α) : (xs.map f).take xs.length = xs.map f := List.take_of_length_le (by simp)
def eqTyD (T : Tab) (n : Nat) : Option TI → Bool
  | some ⟨.int _, _, _, _⟩ => true
  | some ⟨.bool, _, _, _⟩ => true
  | some ⟨.string, _, _, _⟩ => true
  | some ⟨.struct fs, _, _, _⟩ => fs.all fun f => eqTy T n f.1
  | some ⟨.array _ e, _, _, _⟩ => eqTy T n e
  | _ => false
theorem eqTy_step (n : Nat) (t : TypeId) : eqTy T (n + 1) t = eqTyD T n (T.get t) := by
  simp only [eqTy]; unfold eqTyD; rfl
def itemsI (len : Nat) (e : TypeId) : Option TI → List (TypeId × Nat)
  | some j => (List.range len).map fun i => (e, i * j.size)
  | none => [(e, 0)]
theorem itemsOf_eq (len : Nat) (e : TypeId) : itemsOf T len e = itemsI len e (T.get e) := by
  unfold itemsOf itemsI; rfl
theorem range2 : List.range 2 = [0, 1] := _root_.id rfl
theorem range3 : List.range 3 = [0, 1, 2] := _root_.id rfl
theorem range4 : List.range 4 = [0, 1, 2, 3] := _root_.id rfl
def aeqD (T : Tab) (n : Nat) (t : TypeId) : AV → AV → Option TI → Option Bool
  | .c (.v (.int k a)), .c (.v (.int k' b)), some ⟨.int _, _, _, _⟩ => if k = k' then some (decide (a = b)) else none
  | .c (.v (.bool a)), .c (.v (.bool b)), some ⟨.bool, _, _, _⟩ => some (a == b)
  | .c (.v (.string a)), .c (.v (.string b)), some ⟨.string, _, _, _⟩ => some (decide (a = b))
  | .agg xs, .agg ys, some ⟨.struct fs, _, _, _⟩ => if eqTy T 10 t then aeqFs (aeqIn T n) T xs ys fs else none
  | .agg xs, .agg ys, some ⟨.array len e, _, _, _⟩ => if eqTy T 10 t then aeqFs (aeqIn T n) T xs ys (itemsI len e (T.get e)) else none
  | _, _, _ => none
theorem aeqIn_step (n : Nat) (t : TypeId) (x y : AV) : aeqIn T (n + 1) t x y = aeqD T n t x y (T.get t) := by
  simp only [aeqIn]
  cases T.get t with
  | none => cases x with
    | c u => cases u with
      | v a => cases a <;> cases y with
        | c u' => cases u' with
          | v b => cases b <;> rfl
          | _ => rfl
        | _ => rfl
      | _ => rfl
    | agg xs => cases y <;> rfl
    | _ => rfl
  | some i =>
    obtain ⟨d, sz, b, z⟩ := i
    cases d with
    | int k =>
      cases x with
      | c u => cases u with
        | v a => cases a <;> cases y with
          | c u' => cases u' with
            | v b => cases b <;> rfl
            | _ => rfl
          | _ => rfl
        | _ => rfl
      | agg xs => cases y <;> rfl
      | _ => rfl
    | bool =>
      cases x with
      | c u => cases u with
        | v a => cases a <;> cases y with
          | c u' => cases u' with
            | v b => cases b <;> rfl
            | _ => rfl
          | _ => rfl
        | _ => rfl
      | agg xs => cases y <;> rfl
      | _ => rfl
    | string =>
      cases x with
      | c u => cases u with
        | v a => cases a <;> cases y with
          | c u' => cases u' with
            | v b => cases b <;> first | rfl | simp only [aeqD, str_beq]
            | _ => rfl
          | _ => rfl
        | _ => rfl
      | agg xs => cases y <;> rfl
      | _ => rfl
    | struct fs =>
      cases x with
      | c u => cases u with
        | v a => cases a <;> cases y with
          | c u' => cases u' with
            | v b => cases b <;> rfl
            | _ => rfl
          | _ => rfl
        | _ => rfl
      | agg xs => cases y <;> rfl
      | _ => rfl
    | array len e =>
      cases x with
      | c u => cases u with
        | v a => cases a <;> cases y with
          | c u' => cases u' with
            | v b => cases b <;> rfl
            | _ => rfl
          | _ => rfl
        | _ => rfl
      | agg xs => cases y <;> first | rfl | simp only [aeqD, itemsOf_eq]
      | _ => rfl
    | _ =>
      cases x with
      | c u => cases u with
        | v a => cases a <;> cases y with
          | c u' => cases u' with
            | v b => cases b <;> rfl
            | _ => rfl
          | _ => rfl
        | _ => rfl
      | agg xs => cases y <;> rfl
      | _ => rfl
def eqRes (neg : Bool) : Option Bool → Option AV
  | some b => some (.c (.v (.bool (if neg then !b else b))))
  | none => none
theorem abin_aggeq (t : TypeId) (xs ys : List AV) : abin T s .eql t (.agg xs) (.agg ys) = eqRes false (aeqIn T 10 t (.agg xs) (.agg ys)) := by
  simp only [abin]; cases aeqIn T 10 t (.agg xs) (.agg ys) <;> rfl
theorem abin_aggne (t : TypeId) (xs ys : List AV) : abin T s .neq t (.agg xs) (.agg ys) = eqRes true (aeqIn T 10 t (.agg xs) (.agg ys)) := by
  simp only [abin]; cases aeqIn T 10 t (.agg xs) (.agg ys) <;> rfl
end
theorem natCast_nonneg_true (n : Nat) : (0 ≤ (n : Int)) = True := eq_true (Int.natCast_nonneg n)
attribute [push_cast] itemsI range2 range3 range4 eqTy_step eqTyD aeqIn_step aeqD aeqFs eqRes abin_aggeq abin_aggne snapL_lsl snapCons snapArr take_map_len List.drop_zero List.take_length Nat.le_refl abin_slt abin_sle abin_sgt abin_sge aeff_makeT makesT Nat.zero_add Nat.add_zero Int.ofNat_lt Int.ofNat_le natCast_nonneg_true getD_map
end Go.Proofs.Ytnnpjblpiecfdaa.Fw
