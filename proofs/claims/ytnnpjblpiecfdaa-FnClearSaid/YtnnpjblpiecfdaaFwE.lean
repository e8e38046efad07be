/- The quiet operations, one by one: what they compute. -/
import Derived.Test.YtnnpjblpiecfdaaFwD
import Derived.ChangeKeysEq
namespace Go.Proofs.Ytnnpjblpiecfdaa.Fw
open Go.RowKit

section
variable {P : Program} {T : Tab} {E : Entry} {s : AState} {a : Act} {w : World} {F : Nat → Prop} {B : Beta} {U : Nat → Prop}

theorem lo_c (x : CV) (n : Nat → Prop) : (AV.c x).lo n := by simp only [AV.lo]

theorem yields_v {m : Sem Value} {x : Value} (h : m.run P w = .ok x w) (hx : atomic x = true) : Yields P U w F B m (.c (.v x)) := ⟨x, h, mk_v hx, lo_c _ _⟩

theorem intBin_sound {op : BinOp} {k : IntKind} {x y : Int} {v : Value} {t : TypeId} (h : intBin op k x y = some v) (h1 : op ≠ .shl) (h2 : op ≠ .shr) : (binOp op t (.int k x) (.int k y)).run P w = .ok v w ∧ atomic v = true := by
  cases op <;> simp only [intBin, reduceCtorEq] at h <;> first
    | (simp only [Option.some.injEq] at h; subst h; exact ⟨by simp [binOp, Op.intArith, Op.intBits, Op.intCmp], rfl⟩)
    | (split at h
       · cases h
       · simp only [Option.some.injEq] at h; subst h; exact ⟨by simp [binOp, Op.intDiv, *], rfl⟩)
    | exact absurd rfl h1
    | exact absurd rfl h2

theorem strBin_sound {op : BinOp} {x y : ByteArray} {v : Value} {t : TypeId} (h : strBin op x y = some v) : (binOp op t (.string x) (.string y)).run P w = .ok v w ∧ atomic v = true := by
  cases op <;> simp only [strBin, reduceCtorEq] at h <;> first
    | (simp only [Option.some.injEq] at h; subst h; exact ⟨by simp [binOp, Op.stringOp], rfl⟩)
    | (split at h
       · cases h
       · simp only [Option.some.injEq] at h; subst h; exact ⟨by simp [binOp, Op.stringOp, IntKind.max, IntKind.signed, IntKind.bits] <;> omega, rfl⟩)

theorem eqGuard_plain {op : BinOp} {t : TypeId} {x y : Operand} {u v : Value} (h1 : ∀ cs, u ≠ .agg cs) (h2 : u ≠ .nilIface) : (eqGuard op t x y u v).run P w = .ok () w := by
  cases u <;> first
    | exact absurd rfl (h1 _)
    | exact absurd rfl h2
    | (cases op <;> rfl)

theorem equal_bool {t : TypeId} (h : P.underlying t = some .bool) (x y : Bool) : (Op.equal t (.bool x) (.bool y)).run P w = .ok (x == y) w := by
  show (Op.equalIn (9999 + 1) t _ _).run P w = _
  rw [Op.equalIn, Sem.run_bind, run_underlying h]
  rfl
theorem equal_nil {t e : TypeId} (h : P.underlying t = some (.slice e)) (n c : Nat) (b : Option Addr) : (Op.equal t (.slice b n c) (.slice none 0 0)).run P w = .ok b.isNone w := by
  show (Op.equalIn (9999 + 1) t _ _).run P w = _
  rw [Op.equalIn, Sem.run_bind, run_underlying h]
  cases b <;> rfl

theorem part_sound (hT : Tab.ok P T = true) {t : TypeId} {cs : List AV} {z : AV} {off : Nat} {C : Array Value} (hs : C.size = cs.length) (hr : ∀ (i : Nat) x v, cs[i]? = some x → C[i]? = some v → ARep w F B v x) (hlo : ∀ x ∈ cs, x.lo U)
    (he : apart T t cs off = some z) : Yields P U w F B (part t C off) z := by
  unfold apart at he
  split at he
  · rename_i i hi
    cases hag : i.d.isAgg with
    | true =>
      rw [hag] at he
      simp only [if_true] at he
      split at he
      · rename_i hfit
        simp only [Option.some.injEq] at he
        subst he
        refine ⟨.agg (C.extract off (off + i.size)), by simp [part, get_isAgg hT hi, hag, get_size hT hi], .agg ?_ ?_, ?_⟩
        · simp only [Array.size_extract, List.length_take, List.length_drop]; omega
        · intro k x v hx hv
          rw [List.getElem?_take] at hx
          split at hx
          · rw [List.getElem?_drop] at hx
            refine hr (off + k) x v hx ?_
            rw [Array.getElem?_extract] at hv
            split at hv
            · exact hv
            · cases hv
          · cases hx
        · simp only [AV.lo]
          exact fun x hx => hlo x (List.mem_of_mem_drop (List.mem_of_mem_take hx))
      · cases he
    | false =>
      rw [hag] at he
      simp only [Bool.false_eq_true, if_false] at he
      have hoff : off < cs.length := (List.getElem?_eq_some_iff.1 he).1
      have hoffC : off < C.size := by omega
      refine ⟨C[off], by simp [part, get_isAgg hT hi, hag, Array.getElem?_eq_getElem hoffC], hr off z _ he (Array.getElem?_eq_getElem hoffC), hlo z (List.mem_of_getElem? he)⟩
  · cases he

theorem lo_true : ∀ (x : AV), x.lo (fun _ => True)
  | .junk => by simp only [AV.lo]
  | .c _ => by simp only [AV.lo]
  | .agg cs => by simp only [AV.lo]; exact fun y hy => lo_true y
  | .tup cs => by simp only [AV.lo]; exact fun y hy => lo_true y
  | .ref l _ => by simp only [AV.lo]
  | .eref l _ _ _ => by simp only [AV.lo]
  | .lsl l _ _ _ => by simp only [AV.lo]
  | .fn _ caps => by simp only [AV.lo]; exact fun y hy => lo_true y

theorem eqFs_sound (hT : Tab.ok P T = true) {f : TypeId → AV → AV → Option Bool} {d : Nat} (hf : ∀ t x y b, f t x y = some b → ∀ v1 v2, ARep w F B v1 x → ARep w F B v2 y → (Op.equalIn d t v1 v2).run P w = .ok b w)
    {xs ys : List AV} {C D : Array Value} (hC : C.size = xs.length) (hCr : ∀ (i : Nat) x v, xs[i]? = some x → C[i]? = some v → ARep w F B v x) (hD : D.size = ys.length) (hDr : ∀ (i : Nat) x v, ys[i]? = some x → D[i]? = some v → ARep w F B v x) :
    ∀ (fl : List Field) (b : Bool), (∀ g ∈ fl, g.name ≠ "_") → aeqFs f T xs ys (fl.map fun g => (g.type, g.offset)) = some b → (Op.eqFields d C D fl).run P w = .ok b w
  | [], b, _, h => by
    simp only [List.map_nil, aeqFs, Option.some.injEq] at h
    subst h
    simp [Op.eqFields]
  | g :: fl, b, hn, h => by
    simp only [List.map_cons, aeqFs] at h
    split at h
    · rename_i x y hx hy
      split at h
      · rename_i b1 b2 h1 h2
        cases h
        obtain ⟨v1, r1, p1, _⟩ := part_sound (U := fun _ => True) hT hC hCr (fun x _ => lo_true x) hx
        obtain ⟨v2, r2, p2, _⟩ := part_sound (U := fun _ => True) hT hD hDr (fun x _ => lo_true x) hy
        have r3 := hf _ _ _ _ h1 v1 v2 p1 p2
        have r4 := eqFs_sound hT hf hC hCr hD hDr fl b2 (fun g' hg' => hn g' (by simp [hg'])) h2
        simp only [Op.eqFields, hn g (by simp), ne_eq, not_false_eq_true, if_true, Sem.run_bind, r1, r2, r3, Result.andThen_ok]
        cases b1
        · simp
        · simpa using r4
      · cases h
    · cases h

theorem eqItems_sound (hT : Tab.ok P T = true) {f : TypeId → AV → AV → Option Bool} {d c : Nat} {e : TypeId} (hf : ∀ t x y b, f t x y = some b → ∀ v1 v2, ARep w F B v1 x → ARep w F B v2 y → (Op.equalIn d t v1 v2).run P w = .ok b w)
    {xs ys : List AV} {C D : Array Value} (hC : C.size = xs.length) (hCr : ∀ (i : Nat) x v, xs[i]? = some x → C[i]? = some v → ARep w F B v x) (hD : D.size = ys.length) (hDr : ∀ (i : Nat) x v, ys[i]? = some x → D[i]? = some v → ARep w F B v x) :
    ∀ (is : List Nat) (b : Bool), aeqFs f T xs ys (is.map fun i => (e, i * c)) = some b → (Op.eqItems d e c C D is).run P w = .ok b w
  | [], b, h => by
    simp only [List.map_nil, aeqFs, Option.some.injEq] at h
    subst h
    simp [Op.eqItems]
  | i :: is, b, h => by
    simp only [List.map_cons, aeqFs] at h
    split at h
    · rename_i x y hx hy
      split at h
      · rename_i b1 b2 h1 h2
        cases h
        obtain ⟨v1, r1, p1, _⟩ := part_sound (U := fun _ => True) hT hC hCr (fun x _ => lo_true x) hx
        obtain ⟨v2, r2, p2, _⟩ := part_sound (U := fun _ => True) hT hD hDr (fun x _ => lo_true x) hy
        have r3 := hf _ _ _ _ h1 v1 v2 p1 p2
        have r4 := eqItems_sound hT hf hC hCr hD hDr is b2 h2
        simp only [Op.eqItems, Sem.run_bind, r1, r2, r3, Result.andThen_ok]
        cases b1
        · simp
        · simpa using r4
      · cases h
    · cases h

theorem aeqIn_sound (hT : Tab.ok P T = true) : ∀ (n : Nat) (t : TypeId) (x y : AV) (b : Bool), aeqIn T n t x y = some b → ∀ v1 v2, ARep w F B v1 x → ARep w F B v2 y → ∀ d, n ≤ d → (Op.equalIn d t v1 v2).run P w = .ok b w
  | 0, _, _, _, _, h => by simp [aeqIn] at h
  | n + 1, t, x, y, b, h => by
    intro v1 v2 h1 h2 d hd
    obtain ⟨d, rfl⟩ : ∃ d', d = d' + 1 := ⟨d - 1, by omega⟩
    have ih := fun t x y b h v1 v2 h1 h2 => aeqIn_sound hT n t x y b h v1 v2 h1 h2 d (by omega)
    simp only [aeqIn] at h
    split at h
    · rename_i hi
      obtain ⟨dd, hd1, hd2⟩ := (Tab.get_spec hT hi).desc
      split at h
      · obtain rfl := rep_v h1
        obtain rfl := rep_v h2
        split at h
        · rename_i hk
          subst hk
          cases h
          cases dd <;> simp [TD.fits] at hd2
          rw [run_equalIn_int w d t _ _ _ _ hd1]
          congr 1
        · cases h
      · cases h
    · rename_i hi
      obtain ⟨dd, hd1, hd2⟩ := (Tab.get_spec hT hi).desc
      split at h
      · obtain rfl := rep_v h1
        obtain rfl := rep_v h2
        cases h
        cases dd <;> simp [TD.fits] at hd2
        exact run_equalIn_bool' w d t _ _ hd1
      · cases h
    · rename_i hi
      obtain ⟨dd, hd1, hd2⟩ := (Tab.get_spec hT hi).desc
      split at h
      · obtain rfl := rep_v h1
        obtain rfl := rep_v h2
        cases h
        cases dd <;> simp [TD.fits] at hd2
        exact run_equalIn_string w d t _ _ hd1
      · cases h
    · rename_i fs _ _ _ hi
      obtain ⟨dd, hd1, hd2⟩ := (Tab.get_spec hT hi).desc
      split at h
      · split at h
        · rename_i he
          have hok := Tab.eq_spec hT hi he
          cases dd <;> simp [TD.fits] at hd2
          rename_i fields
          simp only [eqOk, hd1, Bool.and_eq_true, Bool.not_eq_true'] at hok
          cases h1 with | agg a1 a2 =>
          cases h2 with | agg b1 b2 =>
          have hfo : P.fieldsOf t = fields := by simp [Program.fieldsOf, hd1]
          rw [run_equalIn_struct w d t _ _ (by rw [hfo]; exact hd1) hok.1.2, hfo]
          refine eqFs_sound hT ih a1 a2 b1 b2 fields.toList b (fun g hg => ?_) (by rw [hd2]; exact h)
          have := Array.all_eq_true'.1 hok.1.1 g (by simpa using hg)
          simpa using this
        · cases h
      · cases h
    · rename_i len e _ _ _ hi
      obtain ⟨dd, hd1, hd2⟩ := (Tab.get_spec hT hi).desc
      split at h
      · split at h
        · rename_i he
          cases dd <;> simp [TD.fits] at hd2
          obtain ⟨rfl, rfl⟩ := hd2
          cases h1 with | agg a1 a2 =>
          cases h2 with | agg b1 b2 =>
          unfold itemsOf at h
          split at h
          · rename_i j hj
            obtain ⟨info, z, hi1, hi2, _⟩ := (Tab.get_spec hT hj).info
            rw [run_equalIn_array w d _ _ hd1 hi1, show P.cellsOf e = j.size from by simp [Program.cellsOf, hi1, hi2]]
            exact eqItems_sound hT ih a1 a2 b1 b2 _ b h
          · simp only [aeqFs, apart, ‹T.get e = none›] at h
            cases h
        · cases h
      · cases h
    · cases h

theorem abin_sound (hT : Tab.ok P T = true) (h : RelB E s a w F B U) {op : BinOp} {t : TypeId} {xo yo : Operand} {x y z : AV} {u v : Value} (hu : ARep w F B u x) (hv : ARep w F B v y) (he : abin T s op t x y = some z) :
    Yields P U w F B (do eqGuard op t xo yo u v; binOp op t u v) z := by
  unfold abin at he
  split at he
  · rename_i k m j n
    obtain rfl := rep_v hu
    obtain rfl := rep_v hv
    have hg : ∀ op', (eqGuard op' t xo yo (.int k m) (.int j n)).run P w = .ok () w := fun op' => eqGuard_plain (fun _ => by simp) (by simp)
    split at he
    · split at he
      · cases he
      · simp only [Option.some.injEq] at he
        subst he
        refine yields_v ?_ rfl
        rw [Sem.run_bind, hg, Result.andThen_ok]
        simp [binOp, Op.shift, *]
    · split at he
      · cases he
      · simp only [Option.some.injEq] at he
        subst he
        refine yields_v ?_ rfl
        rw [Sem.run_bind, hg, Result.andThen_ok]
        simp [binOp, Op.shift, *]
    · split at he
      · rename_i hk
        subst hk
        simp only [Option.map_eq_some_iff] at he
        obtain ⟨v, h1, rfl⟩ := he
        obtain ⟨h2, h3⟩ := intBin_sound (P := P) (w := w) (t := t) h1 ‹_› ‹_›
        refine yields_v ?_ h3
        rw [Sem.run_bind, hg, Result.andThen_ok, h2]
      · cases he
  · rename_i m n
    obtain rfl := rep_v hu
    obtain rfl := rep_v hv
    simp only [Option.map_eq_some_iff] at he
    obtain ⟨v, h1, rfl⟩ := he
    obtain ⟨h2, h3⟩ := strBin_sound (P := P) (w := w) (t := t) h1
    refine yields_v ?_ h3
    rw [Sem.run_bind, eqGuard_plain (fun _ => by simp) (by simp), Result.andThen_ok, h2]
  · rename_i m n
    obtain rfl := rep_v hu
    obtain rfl := rep_v hv
    have hg : ∀ op', (eqGuard op' t xo yo (.bool m) (.bool n)).run P w = .ok () w := fun op' => eqGuard_plain (fun _ => by simp) (by simp)
    split at he
    · simp only [Option.some.injEq] at he
      subst he
      refine yields_v ?_ rfl
      rw [Sem.run_bind, hg, Result.andThen_ok]
      simp [binOp, equal_bool (desc_bool hT ‹_›)]
    · simp only [Option.some.injEq] at he
      subst he
      refine yields_v ?_ rfl
      rw [Sem.run_bind, hg, Result.andThen_ok]
      simp [binOp, equal_bool (desc_bool hT ‹_›)]
    · cases he
  · rename_i xs ys
    split at he
    · rename_i b hb
      have he1 : (Op.equal t u v).run P w = .ok b w := aeqIn_sound hT 10 t _ _ b hb u v hu hv 10000 (by omega)
      have hg : (eqGuard op t xo yo u v).run P w = .ok () w := by
        have hb' := hb
        obtain ⟨m, hm⟩ : ∃ m, 10 = m + 1 := ⟨9, rfl⟩
        rw [hm] at hb'
        simp only [aeqIn] at hb'
        split at hb'
        · cases hb'
        · cases hb'
        · cases hb'
        · rename_i fs n b z hi
          split at hb'
          · rename_i he
            have hok := Tab.eq_spec hT hi he
            obtain ⟨dd, hd1, hd2⟩ := (Tab.get_spec hT hi).desc
            cases dd <;> simp [TD.fits] at hd2
            simp only [eqOk, hd1, Bool.and_eq_true, Bool.not_eq_true'] at hok
            cases hu with | agg a1 a2 =>
            cases hv with | agg b1 b2 =>
            have hne := hok.2
            cases op <;> simp only [eqGuard, Sem.run_bind, run_program, Result.andThen_ok, hne, Bool.not_false, Bool.not_true, Bool.false_eq_true, Sem.run_pure, ↓reduceIte]
          · cases hb'
        · rename_i len e n b z hi
          split at hb'
          · rename_i he
            have hok := Tab.eq_specA hT hi he
            obtain ⟨dd, hd1, hd2⟩ := (Tab.get_spec hT hi).desc
            cases dd <;> simp [TD.fits] at hd2
            simp only [eqOk, hd1, Bool.not_eq_true'] at hok
            cases hu with | agg a1 a2 =>
            cases hv with | agg b1 b2 =>
            cases op <;> simp only [eqGuard, Sem.run_bind, run_program, Result.andThen_ok, hok, Bool.not_false, Bool.not_true, Bool.false_eq_true, Sem.run_pure, ↓reduceIte]
          · cases hb'
        · cases hb'
      cases hu with | agg a1 a2 =>
      cases hv with | agg b1 b2 =>
      split at he
      · cases he
        refine yields_v ?_ rfl
        rw [Sem.run_bind, hg, Result.andThen_ok]
        simp [binOp, he1]
      · cases he
        refine yields_v ?_ rfl
        rw [Sem.run_bind, hg, Result.andThen_ok]
        simp [binOp, he1]
      · cases he
    · cases he
  · cases he

theorem aun_sound {op : UnOp} {x z : AV} {u : Value} (hu : ARep w F B u x) (he : aun op x = some z) : Yields P U w F B (Op.unary op u) z := by
  unfold aun at he
  split at he
  · obtain rfl := rep_v hu
    split at he <;> first
      | (simp only [Option.some.injEq] at he; subst he; exact yields_v (by simp [Op.unary, Op.intArith, Op.intBits]) rfl)
      | cases he
  · obtain rfl := rep_v hu
    split at he <;> first
      | (simp only [Option.some.injEq] at he; subst he; exact yields_v (by simp [Op.unary]) rfl)
      | cases he
  · cases he

theorem run_push {f : Value → ByteArray → Sem (ForInStep ByteArray)} (hf : ∀ (n : Int) s, (f (.int .u8 n) s).run P w = .ok (.yield (s.push (UInt8.ofNat n.toNat))) w) : ∀ (rows : List (List CV)) (vs : List Value) (l : List UInt8) (s : ByteArray), bytesL rows = some l → vs.length = rows.length → (∀ (i : Nat) (x : CV) v, rows[i]? = some [x] → vs[i]? = some v → CRep w F v x) →
    (forIn vs s f).run P w = .ok ⟨s.data ++ l.toArray⟩ w
  | [], [], l, s, h, _, _ => by
    simp only [bytesL, Option.some.injEq] at h
    subst h
    simp
  | [], _ :: _, _, _, _, hl, _ => by simp at hl
  | _ :: _, [], _, _, _, hl, _ => by simp at hl
  | r :: rows, v :: vs, l, s, h, hl, hr => by
    unfold bytesL at h
    split at h
    · simp at *
    · rename_i n rs heq
      cases heq
      split at h
      · rename_i l' h'
        cases h
        have hv := hr 0 (.v (.int .u8 n)) v rfl rfl
        cases hv
        rw [List.forIn_cons, Sem.run_bind, hf]
        simp only [Result.andThen_ok]
        rw [run_push hf rows vs l' _ h' (by simpa using hl) (fun i x v hx hv => hr (i + 1) x v (by simpa using hx) (by simpa using hv))]
        congr 1
        simp [ByteArray.push]
      · cases h
    · cases h

theorem bytes_sound {nl full : Bool} {rows : List (List CV)} {u : Value} {l : List UInt8} (hu : CRep w F u (.sl nl full 1 rows)) (h : bytesL rows = some l) : (Conv.bytesToString u).run P w = .ok (.string ⟨l.toArray⟩) w := by
  cases hu with
  | nil =>
    simp only [bytesL, Option.some.injEq] at h
    subst h
    rfl
  | @sl _ _ _ _ a n cap f hn hc hf h1 h2 =>
    have hone : ∀ (rows : List (List CV)) l, bytesL rows = some l → ∀ (i : Nat) row, rows[i]? = some row → ∃ x, row = [x] := by
      intro rows
      induction rows with
      | nil => intro l _ i row hr; simp at hr
      | cons r rs ih =>
        intro l h i row hr
        unfold bytesL at h
        split at h
        · simp at *
        · rename_i n rs' heq
          cases heq
          split at h
          · rename_i l' h'
            cases i with
            | zero => simp only [List.getElem?_cons_zero, Option.some.injEq] at hr; exact ⟨_, hr.symm⟩
            | succ i => exact ih l' h' i row (by simpa using hr)
          · cases h
        · cases h
    subst hn
    have hvs : ((List.range rows.length).map fun i => f i 0).length = rows.length := by simp
    have hcell : ∀ j v, ((List.range rows.length).map fun i => f i 0)[j]? = some v → w.cell? (a.add j) = some v := by
      intro j v hv
      simp only [List.getElem?_map, Option.map_eq_some_iff] at hv
      obtain ⟨k, hk, rfl⟩ := hv
      obtain ⟨hk1, hk2⟩ := List.getElem?_eq_some_iff.1 hk
      simp only [List.getElem_range, List.length_range] at hk1 hk2
      subst hk2
      obtain ⟨x, hx⟩ := hone rows l h j _ (List.getElem?_eq_getElem hk1)
      have := (h1 j _ (List.getElem?_eq_getElem hk1) 0 x (by rw [hx]; rfl)).2
      simpa using this
    have hload := run_loadCells_list (P := P) w a _ hcell
    rw [hvs] at hload
    unfold Conv.bytesToString
    simp only [Sem.run_bind, hload, Result.andThen_ok, List.forIn_toArray]
    rw [run_push (P := P) (w := w) (F := F) (f := _) ?_ rows _ l ByteArray.empty h hvs ?_]
    · rw [show ByteArray.empty.data ++ l.toArray = l.toArray from by rw [show ByteArray.empty.data = #[] from rfl, Array.empty_append]]
      rfl
    · intro n s
      simp
    · intro i x v hx hv
      simp only [List.getElem?_map, Option.map_eq_some_iff] at hv
      obtain ⟨k, hk, rfl⟩ := hv
      obtain ⟨hk1, hk2⟩ := List.getElem?_eq_some_iff.1 hk
      simp only [List.getElem_range, List.length_range] at hk1 hk2
      subst hk2
      exact h2 i _ hx 0 x rfl

theorem aconv_sound (hT : Tab.ok P T = true) {src dst : TypeId} {x z : AV} {u : Value} (hu : ARep w F B u x) (he : aconv T src dst x = some z) : Yields P U w F B (convert src dst u) z := by
  unfold aconv at he
  split at he
  · rename_i nl full rows
    split at he
    · rename_i e hsrc hdst
      split at he
      · rename_i hel
        split at he
        · rename_i l hl
          cases he
          cases hu with | c hu =>
          have hb := bytes_sound (P := P) hu hl
          have hs : ∃ ad n c, u = .slice ad n c := by
            cases hu with
            | nil => exact ⟨_, _, _, rfl⟩
            | sl => exact ⟨_, _, _, rfl⟩
          obtain ⟨ad, n, c, rfl⟩ := hs
          exact yields_v (by simp [convert, run_underlying (desc_slice hT hsrc), run_underlying (desc_string hT hdst), run_underlying (desc_int hT hel), hb]) rfl
        · cases he
      · cases he
    · cases he
  · obtain rfl := rep_v hu
    split at he
    · simp only [Option.some.injEq] at he
      subst he
      exact yields_v (by simp [convert, run_underlying (desc_int hT ‹T.desc src = _›), run_underlying (desc_int hT ‹T.desc dst = _›), Conv.intToInt]) rfl
    · cases he
  · obtain rfl := rep_v hu
    split at he
    · simp only [Option.some.injEq] at he
      subst he
      exact yields_v (by simp [convert, run_underlying (desc_string hT ‹T.desc src = _›), run_underlying (desc_string hT ‹T.desc dst = _›)]) rfl
    · cases he
  · cases he

theorem nil_ptr {o : Oper} {xo : Operand} (ho : o.op = .nilCheck xo) {ad : Addr} (h : a.eval xo = .pointer (some ad)) : (execOp a.eval o).run P w = .ok (.value (.pointer (some ad))) w := by
  simp [execOp, ho, h]
theorem nil_fn {o : Oper} {xo : Operand} (ho : o.op = .nilCheck xo) {g : FuncId} {f c : Array Value} (h : a.eval xo = .func (.func g) f c) : (execOp a.eval o).run P w = .ok (.value (.func (.func g) f c)) w := by
  simp [execOp, ho, h]

theorem nil_sound (h : RelB E s a w F B U) {o : Oper} {x z : AV} {xo : Operand} (ho : o.op = .nilCheck xo) (hx : ARep w F B (a.eval xo) x) (hlo : x.lo U) (he : anil s x = some z) :
    ∃ v, (execOp a.eval o).run P w = .ok (.value v) w ∧ ARep w F B v z ∧ z.lo U := by
  have hx' := hx
  generalize hv : a.eval xo = v at hx hx'
  unfold anil at he
  split at he
  · split at he
    · cases he
      obtain ⟨b, n, _, hb, _, _⟩ := alive_B h ‹_›
      cases hx with | ref hx =>
      obtain rfl := hx b n hb
      exact ⟨_, nil_ptr ho hv, hx', hlo⟩
    · cases he
  · split at he
    · cases he
      obtain ⟨b, n, _, hb, _, _⟩ := alive_B h ‹_›
      cases hx with | eref hx =>
      obtain rfl := hx b n hb
      exact ⟨_, nil_ptr ho hv, hx', hlo⟩
    · cases he
  · cases he
    cases hx with | c hx =>
    cases hx with | rp f h1 h2 =>
    exact ⟨_, nil_ptr ho hv, hx', hlo⟩
  · cases he
    cases hx with | fn h1 h2 =>
    exact ⟨_, nil_fn ho hv, hx', hlo⟩
  · cases he
    cases hx with | c hx =>
    cases hx with | fn h1 h2 =>
    exact ⟨_, nil_fn ho hv, hx', hlo⟩
  · cases he

end
end Go.Proofs.Ytnnpjblpiecfdaa.Fw
