/- Calls that write what the caller holds; results that are new variables; nil or an own slice. No condition. -/
import Derived.Test.YtnnpjblpiecfdaaFwGc
namespace Go.Proofs.Ytnnpjblpiecfdaa.Fw
open Go.RowKit
set_option linter.unusedVariables false
set_option linter.unusedSimpArgs false
section
variable {P : Program} {T : Tab} {E : Entry} {s : AState} {q : Bool}
/-! ### results -/
theorem RWk.obox {t : TypeId} {xs ys : List CV} (h : CWkL xs ys) : RWk (.obox t xs) (.obox t ys) := fun ⟨b, h1, ⟨C, h2, h3⟩, h4, h5⟩ => ⟨b, h1, ⟨C, h2, h.creps h3⟩, h4, h5⟩
theorem outW_obox {l : Nat} {t : TypeId} {cells : List CV} (h : ∃ cs, s.objs l = some (.box t cs) ∧ ∃ out0, toCVs cs = some out0 ∧ CWkL out0 cells) : outW s (.obox t cells) (some (.ref l 0)) := by
  obtain ⟨cs, ho, out0, hc, hw⟩ := h
  exact ⟨.obox t out0, RWk.obox hw, l, cs, rfl, ho, hc⟩
def ioW (out : List CV) (t : TypeId) : Option AObj → Prop
  | some (.box t' cs) => t' = t ∧ ∃ out0, toCVs cs = some out0 ∧ CWkL out0 out
  | _ => False
theorem ioW_box {t : TypeId} {cs : List AV} {out : List CV} (h : ∃ out0, toCVs cs = some out0 ∧ CWkL out0 out) : ioW out t (some (.box t cs)) := ⟨rfl, h⟩
theorem fpostW_io_ret (rs : List ResultVar) (out : List CV) (r : RV) (t : TypeId) (cs : List CV) : fpostW T rs (some (t, cs)) out r .ret s = (outW (s.drop 0) r (aresults T s rs) ∧ ioW out t (s.objs 0)) := by
  unfold fpostW
  rw [eq_iff_iff]
  constructor
  · rintro ⟨r0, out0, h1, h2, h3, x, h4, h5, cells, h6, h7⟩
    rw [h4, h6]
    exact ⟨⟨r0, h1, by simpa using h5⟩, rfl, out0, h7, h2⟩
  · rintro ⟨h1, h2⟩
    cases hx : aresults T s rs with
    | none => rw [hx] at h1; exact h1.elim
    | some x =>
      rw [hx] at h1
      obtain ⟨r0, h1, h3⟩ := h1
      cases ho : s.objs 0 with
      | none => rw [ho] at h2; exact h2.elim
      | some o =>
        rw [ho] at h2
        cases o with
        | box t' cells =>
          obtain ⟨rfl, out0, h4, h5⟩ := h2
          exact ⟨r0, out0, h1, h5, .inr rfl, x, hx, by simpa using h3, cells, ho, h4⟩
        | arr e sz rows => exact h2.elim
        | brr e sz rows => exact h2.elim
theorem fpostW_io_normal (rs : List ResultVar) (out : List CV) (r : RV) (t : TypeId) (cs : List CV) : fpostW T rs (some (t, cs)) out r .normal s = (outW (s.drop 0) r (aresults T s rs) ∧ ioW out t (s.objs 0)) := by
  rw [← fpostW_io_ret rs out r t cs]
  unfold fpostW fpost
  simp
theorem fpostAW_ret (rs : List ResultVar) (e sz : Nat) (rows' : List (List CV)) (r : RV) : fpostAW T rs e sz rows' r .ret s = (outW (s.drop 0) r (aresults T s rs) ∧ ioA e sz rows' (s.objs 0)) := by
  unfold fpostAW fpostA ioA
  rw [eq_iff_iff]
  constructor
  · rintro ⟨r0, h1, h3, x, h4, h5, h6⟩
    rw [h4]
    exact ⟨⟨r0, h1, h5⟩, h6⟩
  · rintro ⟨h1, h2⟩
    cases hx : aresults T s rs with
    | none => rw [hx] at h1; exact h1.elim
    | some x =>
      rw [hx] at h1
      obtain ⟨r0, h1, h3⟩ := h1
      exact ⟨r0, h1, .inr rfl, x, rfl, h3, h2⟩
theorem fpostAW_normal (rs : List ResultVar) (e sz : Nat) (rows' : List (List CV)) (r : RV) : fpostAW T rs e sz rows' r .normal s = (outW (s.drop 0) r (aresults T s rs) ∧ ioA e sz rows' (s.objs 0)) := by
  rw [← fpostAW_ret]
  unfold fpostAW fpostA
  simp
theorem ioAnd {r : RV} {x : Option AV} {out : List CV} {t : TypeId} {o : Option AObj} (h1 : outW s r x) (h2 : ioW out t o) : outW s r x ∧ ioW out t o := ⟨h1, h2⟩
theorem arAnd {r : RV} {x : Option AV} {e sz : Nat} {rows : List (List CV)} {o : Option AObj} (h1 : outW s r x) (h2 : ioA e sz rows o) : outW s r x ∧ ioA e sz rows o := ⟨h1, h2⟩
/-- Nil, or a slice that nobody else holds. -/
def oT (e sz : Nat) {α : Type} (row : α → List CV) : Option (List α) → T1
  | none => .c (.sl true false sz [])
  | some xs => .own e sz (mapR row xs)
def oR (e sz : Nat) {α : Type} (row : α → List CV) : Option (List α) → RV
  | none => .c (.sl true false sz [])
  | some xs => .own e sz (mapR row xs)
theorem oT_none (e sz : Nat) {α : Type} (row : α → List CV) : oT e sz row none = .c (.sl true false sz []) := _root_.id rfl
theorem oT_some (e sz : Nat) {α : Type} (row : α → List CV) (xs : List α) : oT e sz row (some xs) = .own e sz (mapR row xs) := _root_.id rfl
theorem oR_none (e sz : Nat) {α : Type} (row : α → List CV) : oR e sz row none = .c (.sl true false sz []) := _root_.id rfl
theorem oR_some (e sz : Nat) {α : Type} (row : α → List CV) (xs : List α) : oR e sz row (some xs) = .own e sz (mapR row xs) := _root_.id rfl
def onO {α R : Type} (o : Option α) (k0 : Option R) (k1 : α → Option R) : Option R := match o with | none => k0 | some x => k1 x
theorem s1o {α R : Type} {r : R} {o : Option α} {k0 : Option R} {k1 : α → Option R} (h : onO o k0 k1 = some r) : (o = none ∧ k0 = some r) ∨ (∃ x, o = some x ∧ k1 x = some r) := by
  cases o with
  | none => exact .inl ⟨rfl, h⟩
  | some x => exact .inr ⟨x, rfl, h⟩
theorem s1on {α R : Type} {r : R} {o : Option α} {k0 : Option R} {k1 : α → Option R} (h : onO o k0 k1 = some r) (hk : o = none) : k0 = some r := by subst hk; exact h
theorem s1os {α R : Type} {r : R} {o : Option α} {k0 : Option R} {k1 : α → Option R} {y : α} (h : onO o k0 k1 = some r) (hk : o = some y) : k1 y = some r := by subst hk; exact h
theorem s2o {α A R : Type} {r : R} {o : Option α} {k0 : Option A} {k1 : α → Option A} {f : A → Option R} (h : (onO o k0 k1).bind f = some r) : onO o (k0.bind f) (fun x => (k1 x).bind f) = some r := by cases o <;> exact h
theorem s3o {α V R : Type} {r : R} {o : Option α} {k0 : Option (V ⊕ R)} {k1 : α → Option (V ⊕ R)} {f : V → Option R} (h : jn (onO o k0 k1) f = some r) : onO o (jn k0 f) (fun x => jn (k1 x) f) = some r := by cases o <;> exact h
/-- One of a few, by a number. -/
def pickN {α : Type} (i : Int) : Nat → List α → Option α
  | _, [] => none
  | n, x :: xs => if i = (n : Int) then some x else pickN i (n + 1) xs
theorem s1p {α : Type} {i : Int} {n : Nat} {x : α} {xs : List α} {r : α} (h : pickN i n (x :: xs) = some r) : (i = (n : Int) ∧ x = r) ∨ pickN i (n + 1) xs = some r := by
  unfold pickN at h
  split at h
  · rename_i hi
    exact .inl ⟨hi, Option.some.inj h⟩
  · exact .inr h
theorem s1pn {α : Type} {i : Int} {n : Nat} {r : α} (h : pickN i n ([] : List α) = some r) : False := by cases h
/-! ### calls that write the elements of a slice -/
theorem RetA.args {f : FuncId} {e sz : Nat} {rows rows' : List (List CV)} {args0 args : List AV} {r : RV} (hlo : ∀ x ∈ args0, x.lo (fun _ => False)) (h : AWkL args0 args) (hR : RetA P f e sz rows args rows' r) : RetA P f e sz rows args0 rows' r := by
  refine ⟨hR.1, hlo, fun w S p n vs hS hld hp hSp hv => hR.2.2 w S p n vs hS hld hp hSp ⟨hv.1.trans h.get.1.symm, fun i x v hx hvv => ?_⟩⟩
  obtain ⟨y, g1, g2⟩ := h.get.2 i x hx
  exact g2.rep (hv.2 i y v g1 hvv)
theorem callA {nid : Nat} {f : FuncId} {l sz n : Nat} {rest : List AV} {K : AV → AState → Prop} (h : ∃ e rows, s.objs l = some (.arr e sz rows) ∧ n = rows.length ∧ ∃ args, argsW (s.drop l) rest args ∧ ∃ rows' r, RetA P f e sz rows args rows' r ∧ r.plain = true ∧ (rows'.all fun x => x.all CV.plain) = true ∧ K (r.av nid) ((s.setArr l e sz rows').ret nid r)) : acall false P s nid f (.lsl l sz 0 n :: rest) K := by
  obtain ⟨e, rows, ho, hn, args, ⟨zs, h1, h2⟩, rows', r, hR, hr, hr', hk⟩ := h
  exact acall_arr ho hn h1 (RetA.args (snapArgs_lo h1) h2 hR) hr hr' hk
/-! ### objects laid open before a call -/
def loc0 : AV → List Nat
  | .lsl l _ _ _ => [l]
  | .ref l _ => [l]
  | .eref l _ _ _ => [l]
  | _ => []
def locB : Option AObj → List Nat
  | some (.box _ cs) => cs.flatMap loc0
  | _ => []
def loc1 (ob : Nat → Option AObj) : AV → List Nat
  | .lsl l _ _ _ => [l]
  | .ref l _ => locB (ob l) ++ [l]
  | .eref l _ _ _ => [l]
  | .fn _ cs => cs.flatMap fun x => match x with | .ref l _ => locB (ob l) ++ [l] | y => loc0 y
  | .agg cs => cs.flatMap loc0
  | _ => []
theorem callFzL {nid : Nat} {f : FuncId} {xs : List AV} {K : AV → AState → Prop} (h : ∃ ls, xs.flatMap (loc1 s.objs) = ls ∧ ∃ p, fzL s xs ls = p ∧ ∃ args, argsW p.1 p.2 args ∧ ∃ r, Ret P f none args [] r ∧ p.2.all okArg = true ∧ K (r.av nid) (p.1.ret nid r)) : acall false P s nid f xs K := by
  obtain ⟨ls, _, h⟩ := h
  exact callFz ls h
theorem callIoFz {nid : Nat} {f : FuncId} {l : Nat} {rest : List AV} {K : AV → AState → Prop} (h : ∃ ls, rest.flatMap (loc1 s.objs) = ls ∧ ∃ s' rest', fzL s (.ref l 0 :: rest) ls = (s', .ref l 0 :: rest') ∧ ∃ t cs, s'.objs l = some (.box t cs) ∧ ∃ cells0 cells, toCVs cs = some cells0 ∧ CWkL cells0 cells ∧ rest'.all okArg = true ∧ ∃ args, argsW s' rest' args ∧ ∃ out r, Ret P f (some (t, cells)) args out r ∧ K (r.av nid) ((s'.setBox l t out).ret nid r)) : acall false P s nid f (.ref l 0 :: rest) K := by
  obtain ⟨ls, _, s', rest', h0, t, cs, h1, cells0, cells, h2, h3, h4, args, ⟨zs, h5, h6⟩, out, r, h7, h8⟩ := h
  obtain ⟨g1, g2⟩ := snapArgs_ok (s := s') rest' h4
  rw [g1] at h5
  cases h5
  refine .inr ⟨rfl, ls, ?_⟩
  rw [h0]
  exact .inr (.inl ⟨rfl, l, t, cs, cells0, rest', out, r, rfl, h1, h2, g2, Ret.args (snapArgs_lo g1) h6 (Ret.cells h3 h7), h8⟩)
theorem CWk.fn {f : FuncId} {xs ys : List CV} (h : CWkL xs ys) : CWk (.fn f xs) (.fn f ys) := fun hx => by
  cases hx with
  | fn h1 h2 =>
    refine .fn (h1.trans h.get.1.symm) (fun i y v hy hv => ?_)
    obtain ⟨x, g1, g2⟩ := h.get.2 i y hy
    exact g2 (h2 i x v g1 hv)
theorem cellW_fn {k : Nat} {f : FuncId} {cs : List AV} {ys : List CV} (h : cellsW s k cs ys) : cellW s (k + 1) (.fn f cs) (.fn f ys) := by
  obtain ⟨zs, g1, g2⟩ := h
  exact ⟨.fn f zs, by simp only [snap1, g1], CWk.fn g2⟩
theorem s1e {R : Type} {r : R} {p : Prop} [Decidable p] {x y : Option R} (h : (if p then x else y) = some r) : (p ∧ x = some r) ∨ (¬ p ∧ y = some r) := by
  by_cases hp : p
  · rw [if_pos hp] at h; exact .inl ⟨hp, h⟩
  · rw [if_neg hp] at h; exact .inr ⟨hp, h⟩
/-- What follows a loop within a choice. -/
inductive jnK2 {V R' R : Type} (g : V → Option R') (f : R' → Option R) (r : R) : V ⊕ R' → Prop
  | inl {v : V} : (g v).bind f = some r → jnK2 g f r (.inl v)
  | inr {x : R'} : f x = some r → jnK2 g f r (.inr x)
theorem s2j {S V R' R : Type} {r : R} {step : S → Option (S ⊕ (V ⊕ R'))} {s : S} {g : V → Option R'} {f : R' → Option R} (h : (jn (iter step s) g).bind f = some r) : ∃ e, iter step s = some e ∧ jnK2 g f r e := by
  cases h1 : iter step s with
  | none => rw [h1] at h; cases h
  | some e =>
    rw [h1] at h
    refine ⟨e, rfl, ?_⟩
    cases e with
    | inl v => exact .inl h
    | inr x => exact .inr h
theorem s2k {V R' R : Type} {r : R} {g : V → Option R'} {f : R' → Option R} {v : V} (h : jnK2 g f r (.inl v)) : (g v).bind f = some r := by cases h with | inl h => exact h
theorem s2kr {V R' R : Type} {r : R} {g : V → Option R'} {f : R' → Option R} {x : R'} (h : jnK2 g f r (.inr x)) : f x = some r := by cases h with | inr h => exact h
theorem s1xk {A R : Type} {r : R} {x : Option A} {f : A → Option R} {a : A} (h : x.bind f = some r) (hk : x = some a) : f a = some r := by subst hk; exact h
def rI_u8 (x : Int) : List CV := [.v (.int .u8 x)]
theorem rI_u8_plain (xs : List Int) : ((mapR rI_u8 xs).all fun r => r.all CV.plain) = true := by simp [mapR, rI_u8, CV.plain]
/-- Numbers as bytes. -/
def bytesU (xs : List Int) : List UInt8 := xs.map fun n => UInt8.ofNat n.toNat
theorem bytesL_U : ∀ (xs : List Int), bytesL (mapR rI_u8 xs) = some (bytesU xs)
  | [] => rfl
  | x :: xs => by
    have ih := bytesL_U xs
    simp only [mapR, rI_u8, List.map_cons, bytesU] at ih ⊢
    rw [bytesL, ih]
theorem getD_set_self {α : Type} (xs : List α) (n : Nat) (v d : α) (h : n < xs.length) : (xs.set n v).getD n d = v := by simp [h]
theorem aresults_nil (T : Tab) (s : AState) : aresults T s [] = some (.tup []) := _root_.id rfl
theorem cellW_pre {k l z n e : Nat} {α : Type} {f : α → List CV} {xs : List α} (ho : s.objs l = some (.arr e z (mapR f xs))) (hn : n ≤ xs.length) : cellW s (k + 1) (.lsl l z 0 n) (.sl true false z (mapR f (xs.take n))) := by
  have h := cellW_part (s := s) (k := k) (off := 0) (n := n) ho (by rw [mapR_len]; omega)
  rwa [List.drop_zero, mapR_take] at h
theorem cellW_prt {k l z off n e : Nat} {α : Type} {f : α → List CV} {xs : List α} (ho : s.objs l = some (.arr e z (mapR f xs))) (hn : off + n ≤ xs.length) : cellW s (k + 1) (.lsl l z off n) (.sl true false z (mapR f ((xs.drop off).take n))) := by
  have h := cellW_part (s := s) (k := k) (off := off) (n := n) ho (by rw [mapR_len]; omega)
  rwa [mapR_drop, mapR_take] at h
theorem abin_shr_i64 (t : TypeId) (j : IntKind) (a : Int) (n : Nat) (h : n ≤ 64) : abin T s .shr t (.c (.v (.int .i64 a))) (.c (.v (.int j (no_index (OfNat.ofNat n))))) = some (.c (.v (.int .i64 (a.fdiv (2 ^ n))))) := by
  have h1 : ¬ ((OfNat.ofNat n : Int) < 0) := by simp
  have h2 : min ((OfNat.ofNat n : Int).toNat) (IntKind.bits .i64) = n := by show min n 64 = n; omega
  simp only [abin, h1, if_false, h2]
theorem abin_shl_i64 (t : TypeId) (j : IntKind) (a : Int) (n : Nat) (h : n ≤ 64) : abin T s .shl t (.c (.v (.int .i64 a))) (.c (.v (.int j (no_index (OfNat.ofNat n))))) = some (.c (.v (.int .i64 (IntKind.wrap .i64 (a * 2 ^ n))))) := by
  have h1 : ¬ ((OfNat.ofNat n : Int) < 0) := by simp
  have h2 : min ((OfNat.ofNat n : Int).toNat) (IntKind.bits .i64) = n := by show min n 64 = n; omega
  simp only [abin, h1, if_false, h2]
theorem abin_shr_u64 (t : TypeId) (j : IntKind) (a : Int) (n : Nat) (h : n ≤ 64) : abin T s .shr t (.c (.v (.int .u64 a))) (.c (.v (.int j (no_index (OfNat.ofNat n))))) = some (.c (.v (.int .u64 (a.fdiv (2 ^ n))))) := by
  have h1 : ¬ ((OfNat.ofNat n : Int) < 0) := by simp
  have h2 : min ((OfNat.ofNat n : Int).toNat) (IntKind.bits .u64) = n := by show min n 64 = n; omega
  simp only [abin, h1, if_false, h2]
theorem abin_shl_u64 (t : TypeId) (j : IntKind) (a : Int) (n : Nat) (h : n ≤ 64) : abin T s .shl t (.c (.v (.int .u64 a))) (.c (.v (.int j (no_index (OfNat.ofNat n))))) = some (.c (.v (.int .u64 (IntKind.wrap .u64 (a * 2 ^ n))))) := by
  have h1 : ¬ ((OfNat.ofNat n : Int) < 0) := by simp
  have h2 : min ((OfNat.ofNat n : Int).toNat) (IntKind.bits .u64) = n := by show min n 64 = n; omega
  simp only [abin, h1, if_false, h2]
theorem abin_shr_u32 (t : TypeId) (j : IntKind) (a : Int) (n : Nat) (h : n ≤ 32) : abin T s .shr t (.c (.v (.int .u32 a))) (.c (.v (.int j (no_index (OfNat.ofNat n))))) = some (.c (.v (.int .u32 (a.fdiv (2 ^ n))))) := by
  have h1 : ¬ ((OfNat.ofNat n : Int) < 0) := by simp
  have h2 : min ((OfNat.ofNat n : Int).toNat) (IntKind.bits .u32) = n := by show min n 32 = n; omega
  simp only [abin, h1, if_false, h2]
theorem abin_shl_u32 (t : TypeId) (j : IntKind) (a : Int) (n : Nat) (h : n ≤ 32) : abin T s .shl t (.c (.v (.int .u32 a))) (.c (.v (.int j (no_index (OfNat.ofNat n))))) = some (.c (.v (.int .u32 (IntKind.wrap .u32 (a * 2 ^ n))))) := by
  have h1 : ¬ ((OfNat.ofNat n : Int) < 0) := by simp
  have h2 : min ((OfNat.ofNat n : Int).toNat) (IntKind.bits .u32) = n := by show min n 32 = n; omega
  simp only [abin, h1, if_false, h2]
theorem abin_shr_u8 (t : TypeId) (j : IntKind) (a : Int) (n : Nat) (h : n ≤ 8) : abin T s .shr t (.c (.v (.int .u8 a))) (.c (.v (.int j (no_index (OfNat.ofNat n))))) = some (.c (.v (.int .u8 (a.fdiv (2 ^ n))))) := by
  have h1 : ¬ ((OfNat.ofNat n : Int) < 0) := by simp
  have h2 : min ((OfNat.ofNat n : Int).toNat) (IntKind.bits .u8) = n := by show min n 8 = n; omega
  simp only [abin, h1, if_false, h2]
theorem abin_shl_u8 (t : TypeId) (j : IntKind) (a : Int) (n : Nat) (h : n ≤ 8) : abin T s .shl t (.c (.v (.int .u8 a))) (.c (.v (.int j (no_index (OfNat.ofNat n))))) = some (.c (.v (.int .u8 (IntKind.wrap .u8 (a * 2 ^ n))))) := by
  have h1 : ¬ ((OfNat.ofNat n : Int) < 0) := by simp
  have h2 : min ((OfNat.ofNat n : Int).toNat) (IntKind.bits .u8) = n := by show min n 8 = n; omega
  simp only [abin, h1, if_false, h2]
theorem abin_shr_i32 (t : TypeId) (j : IntKind) (a : Int) (n : Nat) (h : n ≤ 32) : abin T s .shr t (.c (.v (.int .i32 a))) (.c (.v (.int j (no_index (OfNat.ofNat n))))) = some (.c (.v (.int .i32 (a.fdiv (2 ^ n))))) := by
  have h1 : ¬ ((OfNat.ofNat n : Int) < 0) := by simp
  have h2 : min ((OfNat.ofNat n : Int).toNat) (IntKind.bits .i32) = n := by show min n 32 = n; omega
  simp only [abin, h1, if_false, h2]
theorem abin_shl_i32 (t : TypeId) (j : IntKind) (a : Int) (n : Nat) (h : n ≤ 32) : abin T s .shl t (.c (.v (.int .i32 a))) (.c (.v (.int j (no_index (OfNat.ofNat n))))) = some (.c (.v (.int .i32 (IntKind.wrap .i32 (a * 2 ^ n))))) := by
  have h1 : ¬ ((OfNat.ofNat n : Int) < 0) := by simp
  have h2 : min ((OfNat.ofNat n : Int).toNat) (IntKind.bits .i32) = n := by show min n 32 = n; omega
  simp only [abin, h1, if_false, h2]
theorem abin_shr_u16 (t : TypeId) (j : IntKind) (a : Int) (n : Nat) (h : n ≤ 16) : abin T s .shr t (.c (.v (.int .u16 a))) (.c (.v (.int j (no_index (OfNat.ofNat n))))) = some (.c (.v (.int .u16 (a.fdiv (2 ^ n))))) := by
  have h1 : ¬ ((OfNat.ofNat n : Int) < 0) := by simp
  have h2 : min ((OfNat.ofNat n : Int).toNat) (IntKind.bits .u16) = n := by show min n 16 = n; omega
  simp only [abin, h1, if_false, h2]
theorem abin_shl_u16 (t : TypeId) (j : IntKind) (a : Int) (n : Nat) (h : n ≤ 16) : abin T s .shl t (.c (.v (.int .u16 a))) (.c (.v (.int j (no_index (OfNat.ofNat n))))) = some (.c (.v (.int .u16 (IntKind.wrap .u16 (a * 2 ^ n))))) := by
  have h1 : ¬ ((OfNat.ofNat n : Int) < 0) := by simp
  have h2 : min ((OfNat.ofNat n : Int).toNat) (IntKind.bits .u16) = n := by show min n 16 = n; omega
  simp only [abin, h1, if_false, h2]
theorem s1v {R : Type} {r : R} {i : Int} {n : Nat} {x : Option R} (h : (if 0 ≤ i ∧ i ≤ (n : Int) then x else none) = some r) : (0 ≤ i ∧ i ≤ (n : Int)) ∧ i.toNat ≤ n ∧ x = some r := by
  obtain ⟨h1, h2⟩ := s1g h
  exact ⟨h1, by omega, h2⟩
theorem cellW_suf {k l z off e : Nat} {α : Type} {f : α → List CV} {xs : List α} (ho : s.objs l = some (.arr e z (mapR f xs))) (hn : off ≤ xs.length) : cellW s (k + 1) (.lsl l z off (xs.length - off)) (.sl true false z (mapR f (xs.drop off))) := by
  have h := cellW_part (s := s) (k := k) (off := off) (n := xs.length - off) ho (by rw [mapR_len]; omega)
  rwa [mapR_drop, mapR_take, List.take_of_length_le (by simp)] at h
theorem rowsArr_suf {z off e : Nat} {α : Type} {f : α → List CV} {xs : List α} (hn : off ≤ xs.length) : rowsArr z z off (xs.length - off) (some (.arr e z (mapR f xs))) = some (mapR f (xs.drop off)) := by
  simp only [rowsArr, mapR_len]
  rw [if_pos (by refine ⟨trivial, trivial, ?_⟩ <;> omega), mapR_drop, mapR_take, List.take_of_length_le (by simp)]
theorem rowsArr_pre {z n e : Nat} {α : Type} {f : α → List CV} {xs : List α} (hn : n ≤ xs.length) : rowsArr z z 0 n (some (.arr e z (mapR f xs))) = some (mapR f (xs.take n)) := by
  simp only [rowsArr, mapR_len]
  rw [if_pos (by refine ⟨trivial, trivial, ?_⟩ <;> omega), List.drop_zero, mapR_take]
theorem abin_and (t : TypeId) (k : IntKind) (a b : Int) : abin T s .and t (.c (.v (.int k a))) (.c (.v (.int k b))) = some (.c (.v (.int k (k.wrap (BitVec.ofInt k.bits a &&& BitVec.ofInt k.bits b).toNat)))) := by simp [abin, intBin]
theorem abin_or (t : TypeId) (k : IntKind) (a b : Int) : abin T s .or t (.c (.v (.int k a))) (.c (.v (.int k b))) = some (.c (.v (.int k (k.wrap (BitVec.ofInt k.bits a ||| BitVec.ofInt k.bits b).toNat)))) := by simp [abin, intBin]
theorem abin_xor (t : TypeId) (k : IntKind) (a b : Int) : abin T s .xor t (.c (.v (.int k a))) (.c (.v (.int k b))) = some (.c (.v (.int k (k.wrap (BitVec.ofInt k.bits a ^^^ BitVec.ofInt k.bits b).toNat)))) := by simp [abin, intBin]
theorem AWk.lslN {l z o n m : Nat} (h : n = m) : AWk (.lsl l z o n) (.lsl l z o m) := by subst h; exact AWk.refl _
theorem pl1 (x : CV) : (RV.c x).plain = x.plain := _root_.id rfl
theorem pl2 (cs : List CV) : (RV.agg cs).plain = cs.all CV.plain := _root_.id rfl
theorem pl3 (e sz : Nat) (rows : List (List CV)) : (RV.own e sz rows).plain = rows.all fun r => r.all CV.plain := _root_.id rfl
theorem pl4 (xs : List T1) : (RV.tup xs).plain = xs.all T1.plain := _root_.id rfl
theorem pl5 (t : TypeId) (cs : List CV) : (RV.obox t cs).plain = cs.all CV.plain := _root_.id rfl
theorem pl6 (x : CV) : (T1.c x).plain = x.plain := _root_.id rfl
theorem pl7 (cs : List CV) : (T1.agg cs).plain = cs.all CV.plain := _root_.id rfl
theorem pl8 (e sz : Nat) (rows : List (List CV)) : (T1.own e sz rows).plain = rows.all fun r => r.all CV.plain := _root_.id rfl
theorem pl9 (v : Value) : (CV.v v).plain = true := _root_.id rfl
theorem pl10 (a b : Bool) (z : Nat) : (CV.sl a b z []).plain = true := _root_.id rfl
theorem oT_plain {e sz : Nat} {α : Type} {row : α → List CV} (o : Option (List α)) (h : ∀ xs, ((mapR row xs).all fun r => r.all CV.plain) = true) : (oT e sz row o).plain = true := by
  cases o with
  | none => rfl
  | some xs => simpa [oT, T1.plain] using h xs
theorem oR_plain {e sz : Nat} {α : Type} {row : α → List CV} (o : Option (List α)) (h : ∀ xs, ((mapR row xs).all fun r => r.all CV.plain) = true) : (oR e sz row o).plain = true := by
  cases o with
  | none => rfl
  | some xs => simpa [oR, RV.plain] using h xs
theorem rI_plain (xs : List Int) : ((mapR rI xs).all fun r => r.all CV.plain) = true := by simp [mapR, rI, CV.plain]
theorem rB_plain (xs : List Bool) : ((mapR rB xs).all fun r => r.all CV.plain) = true := by simp [mapR, rB, CV.plain]
theorem rS_plain (xs : List ByteArray) : ((mapR rS xs).all fun r => r.all CV.plain) = true := by simp [mapR, rS, CV.plain]
end
/-! ### nil, or a slice that nobody else holds, at a loop's head -/
theorem CWk.slF {nl : Bool} {z z' : Nat} : CWk (.sl nl true z []) (.sl true true z' []) := fun h => by
  cases h with
  | nil => exact .nil
  | sl f h0 h1 h2 h3 h4 => exact .sl f h0 h1 (fun _ => h2 rfl) (fun i row hr => by simp at hr) (fun i row hr => by simp at hr)
def nilA (b : Bool) (z l n : Nat) : AV := match b with | true => .c (.sl true true z []) | false => .lsl l z 0 n
def nilB (b : Bool) (o : Option AObj) : Option AObj := match b with | true => none | false => o
def nilO {α : Type} (b : Bool) (x : List α) : Option (List α) := match b with | true => none | false => some x
theorem nilA_t (z l n : Nat) : nilA true z l n = .c (.sl true true z []) := _root_.id rfl
theorem nilA_f (z l n : Nat) : nilA false z l n = .lsl l z 0 n := _root_.id rfl
theorem nilB_t (o : Option AObj) : nilB true o = none := _root_.id rfl
theorem nilB_f (o : Option AObj) : nilB false o = o := _root_.id rfl
theorem nilO_t {α : Type} (x : List α) : nilO true x = none := _root_.id rfl
theorem nilO_f {α : Type} (x : List α) : nilO false x = some x := _root_.id rfl
theorem nilC {α : Type} (x : List α) : (x.isEmpty = true ∧ x = []) ∨ x.isEmpty = false := by cases x <;> simp
theorem isEmpty_appN {α : Type} (x y : List α) : (x ++ y).isEmpty = (x.isEmpty && y.isEmpty) := by cases x <;> rfl
theorem isEmpty_setN {α : Type} (x : List α) (i : Nat) (v : α) : (x.set i v).isEmpty = x.isEmpty := by cases x <;> cases i <;> rfl
/-- The name at the loop's head: a new one where it is nil ahead of the loop. -/
def nmN (n : Nat) : Nat → Nat
  | 0 => n
  | a + 1 => a + 1
theorem nmN_0 (n : Nat) : nmN n 0 = n := _root_.id rfl
theorem nmN_s (n a : Nat) (h : a ≠ 0) : nmN n a = a := by cases a with | zero => exact absurd rfl h | succ a => rfl
def nsP (a b : Nat) : List (Nat × Nat) := if a = 0 then [] else [(a, b)]
def mkLN (t' : List AV) (ob' : Nat → Option AObj) (t : List AV) (ob : Nat → Option AObj) (n : Nat) (ps : List (Nat × List Nat)) (ns : List (Nat × List Nat × Nat)) : List (Nat × Nat) :=
  mkL t' ob' t ob ps ++ ns.flatMap fun p => nsP (nmAt ob' (t'.getD p.1 .junk) p.2.1) (nmN (n + p.2.2) (nmAt ob (t.getD p.1 .junk) p.2.1))
theorem vc_of_stepsN {P : Program} {T : Tab} {E : Entry} (hT : Tab.ok P T = true) (k : Nat) {c : Code} {Q : APost} {S R : Type} {step : S → Option (S ⊕ R)} {s0 : S} {r : R} {t : List AV} {ob : Nat → Option AObj} {n : Nat} (F : List AV → (Nat → Option AObj) → Nat → S → List (Nat × AV)) (O : List AV → (Nat → Option AObj) → Nat → S → List (Nat × Option AObj))
    (h : iter step s0 = some r) (h0 : Wk ⟨t, ob, n⟩ (famS (fun t ob => F t ob n) (fun t ob => O t ob n) t ob (n + k) s0))
    (round : ∀ m σ x K, Back step (fun t ob => F t ob n) (fun t ob => O t ob n) t ob (n + k) r m K → step σ = some x → iterK step m r x → vc P T E c (athen K Q) (famS (fun t ob => F t ob n) (fun t ob => O t ob n) t ob (n + k) σ)) : vc P T E (.loop c) Q ⟨t, ob, n⟩ :=
  AWP.weakenW h0 (vc_of_iter0 hT (fun t ob => F t ob n) (fun t ob => O t ob n) h (Wk.refl _) fun m σ x hs hx => round m σ x _ (fun s' k σ' h1 h2 h3 => ⟨k, σ', h1, h2, h3⟩) hs hx)
theorem Back.useN {S R : Type} {step : S → Option (S ⊕ R)} {F : List AV → (Nat → Option AObj) → Nat → S → List (Nat × AV)} {O : List AV → (Nat → Option AObj) → Nat → S → List (Nat × Option AObj)} {t t' : List AV} {ob ob' : Nat → Option AObj} {n n' k : Nat} {r : R} {m : Nat} {K : AState → Prop} (hB : Back step (fun t ob => F t ob n) (fun t ob => O t ob n) t ob (n + k) r m K)
    {σ' : S} (h1 : runN step m σ' = some r) (ps : List (Nat × List Nat)) (ns : List (Nat × List Nat × Nat)) (hL : ∃ L, mkLN t' ob' t ob n ps ns = L ∧ okRen L = true ∧ Wk (AState.ren ⟨t', ob', n'⟩ L) (famS (fun t ob => F t ob n) (fun t ob => O t ob n) t ob (n + k) σ')) : K ⟨t', ob', n'⟩ := by
  obtain ⟨L, _, hok, h⟩ := hL
  exact hB _ _ σ' h1 (Nat.lt_succ_self m) (Wk.auto L hok h)
attribute [push_cast] nilA_t nilA_f nilB_t nilB_f nilO_t nilO_f fpostW_io_ret fpostW_io_normal fpostAW_ret fpostAW_normal oT_none oT_some oR_none oR_some rI_plain rB_plain rS_plain rI_u8_plain bytesL_U getD_set_self List.set_set aresults_nil abin_and abin_or abin_xor Nat.sub_zero List.drop_zero rowsArr_suf rowsArr_pre abin_shr_i64 abin_shl_i64 abin_shr_u64 abin_shl_u64 abin_shr_u32 abin_shl_u32 abin_shr_u8 abin_shl_u8 abin_shr_i32 abin_shl_i32 abin_shr_u16 abin_shl_u16
end Go.Proofs.Ytnnpjblpiecfdaa.Fw
