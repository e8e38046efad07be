/- The quiet operations, one by one: what they compute. -/
import Derived.Test.YtdglnjgjonbfbaaFwD
namespace Go.Proofs.Ytdglnjgjonbfbaa.Fw
open Go.RowKit

section
variable {P : Program} {T : Tab} {E : Entry} {s : AState} {a : Act} {w : World} {F : Nat → Prop} {B : Beta} {U : Nat → Prop}

theorem lo_c (x : CV) (n : Nat → Prop) : (AV.c x).lo n := by simp only [AV.lo]

theorem yields_v {m : Sem Value} {x : Value} (h : m.run P w = .ok x w) (hx : atomic x = true) : Yields P U w F B m (.c (.v x)) := ⟨x, h, mk_v hx, lo_c _ _⟩

theorem intBin_sound {op : BinOp} {k : IntKind} {x y : Int} {v : Value} {t : TypeId} (h : intBin op k x y = some v) (h1 : op ≠ .shl) (h2 : op ≠ .shr) : (binOp op t (.int k x) (.int k y)).run P w = .ok v w ∧ atomic v = true := by
  cases op <;> simp only [intBin, reduceCtorEq] at h <;> first
    | (simp only [Option.some.injEq] at h; subst h; exact ⟨by simp [binOp, Op.intArith, Op.intBits, Op.intCmp], rfl⟩)
    | (split at h
       · cases h
       · simp only [Option.some.injEq] at h; subst h; exact ⟨by simp [binOp, Op.intDiv, *], rfl⟩)
    | exact absurd rfl h1
    | exact absurd rfl h2

theorem strBin_sound {op : BinOp} {x y : ByteArray} {v : Value} {t : TypeId} (h : strBin op x y = some v) : (binOp op t (.string x) (.string y)).run P w = .ok v w ∧ atomic v = true := by
  cases op <;> simp only [strBin, reduceCtorEq] at h <;> first
    | (simp only [Option.some.injEq] at h; subst h; exact ⟨by simp [binOp, Op.stringOp], rfl⟩)
    | (split at h
       · cases h
       · simp only [Option.some.injEq] at h; subst h; exact ⟨by simp [binOp, Op.stringOp, IntKind.max, IntKind.signed, IntKind.bits] <;> omega, rfl⟩)

theorem eqGuard_plain {op : BinOp} {t : TypeId} {x y : Operand} {u v : Value} (h1 : ∀ cs, u ≠ .agg cs) (h2 : u ≠ .nilIface) : (eqGuard op t x y u v).run P w = .ok () w := by
  cases u <;> first
    | exact absurd rfl (h1 _)
    | exact absurd rfl h2
    | (cases op <;> rfl)

theorem equal_bool {t : TypeId} (h : P.underlying t = some .bool) (x y : Bool) : (Op.equal t (.bool x) (.bool y)).run P w = .ok (x == y) w := by
  show (Op.equalIn (9999 + 1) t _ _).run P w = _
  rw [Op.equalIn, Sem.run_bind, run_underlying h]
  rfl
theorem equal_nil {t e : TypeId} (h : P.underlying t = some (.slice e)) (n c : Nat) (b : Option Addr) : (Op.equal t (.slice b n c) (.slice none 0 0)).run P w = .ok b.isNone w := by
  show (Op.equalIn (9999 + 1) t _ _).run P w = _
  rw [Op.equalIn, Sem.run_bind, run_underlying h]
  cases b <;> rfl

theorem abin_sound (hT : Tab.ok P T = true) (h : RelB E s a w F B U) {op : BinOp} {t : TypeId} {xo yo : Operand} {x y z : AV} {u v : Value} (hu : ARep w F B u x) (hv : ARep w F B v y) (he : abin T s op t x y = some z) :
    Yields P U w F B (do eqGuard op t xo yo u v; binOp op t u v) z := by
  unfold abin at he
  split at he
  · rename_i k m j n
    obtain rfl := rep_v hu
    obtain rfl := rep_v hv
    have hg : ∀ op', (eqGuard op' t xo yo (.int k m) (.int j n)).run P w = .ok () w := fun op' => eqGuard_plain (fun _ => by simp) (by simp)
    split at he
    · split at he
      · cases he
      · simp only [Option.some.injEq] at he
        subst he
        refine yields_v ?_ rfl
        rw [Sem.run_bind, hg, Result.andThen_ok]
        simp [binOp, Op.shift, *]
    · split at he
      · cases he
      · simp only [Option.some.injEq] at he
        subst he
        refine yields_v ?_ rfl
        rw [Sem.run_bind, hg, Result.andThen_ok]
        simp [binOp, Op.shift, *]
    · split at he
      · rename_i hk
        subst hk
        simp only [Option.map_eq_some_iff] at he
        obtain ⟨v, h1, rfl⟩ := he
        obtain ⟨h2, h3⟩ := intBin_sound (P := P) (w := w) (t := t) h1 ‹_› ‹_›
        refine yields_v ?_ h3
        rw [Sem.run_bind, hg, Result.andThen_ok, h2]
      · cases he
  · rename_i m n
    obtain rfl := rep_v hu
    obtain rfl := rep_v hv
    simp only [Option.map_eq_some_iff] at he
    obtain ⟨v, h1, rfl⟩ := he
    obtain ⟨h2, h3⟩ := strBin_sound (P := P) (w := w) (t := t) h1
    refine yields_v ?_ h3
    rw [Sem.run_bind, eqGuard_plain (fun _ => by simp) (by simp), Result.andThen_ok, h2]
  · rename_i m n
    obtain rfl := rep_v hu
    obtain rfl := rep_v hv
    have hg : ∀ op', (eqGuard op' t xo yo (.bool m) (.bool n)).run P w = .ok () w := fun op' => eqGuard_plain (fun _ => by simp) (by simp)
    split at he
    · simp only [Option.some.injEq] at he
      subst he
      refine yields_v ?_ rfl
      rw [Sem.run_bind, hg, Result.andThen_ok]
      simp [binOp, equal_bool (desc_bool hT ‹_›)]
    · simp only [Option.some.injEq] at he
      subst he
      refine yields_v ?_ rfl
      rw [Sem.run_bind, hg, Result.andThen_ok]
      simp [binOp, equal_bool (desc_bool hT ‹_›)]
    · cases he
  · rename_i nl f1 z1 r1 f2 z2 r2
    cases hu with | c hu =>
    cases hv with | c hv =>
    have hvn : v = .slice none 0 0 := by cases hv; rfl
    subst hvn
    have hg : ∀ op', (eqGuard op' t xo yo u (.slice none 0 0)).run P w = .ok () w := fun op' => eqGuard_plain (fun _ => by cases hu <;> simp) (by cases hu <;> simp)
    split at he
    · simp only [Option.some.injEq] at he
      subst he
      refine yields_v ?_ rfl
      rw [Sem.run_bind, hg, Result.andThen_ok]
      cases hu <;> simp [binOp, equal_nil (desc_slice hT ‹_›)]
    · simp only [Option.some.injEq] at he
      subst he
      refine yields_v ?_ rfl
      rw [Sem.run_bind, hg, Result.andThen_ok]
      cases hu <;> simp [binOp, equal_nil (desc_slice hT ‹_›)]
    · cases he
  · rename_i l sz off len f2 z2 r2
    split at he
    · rename_i hl
      obtain ⟨b, n, o, hb, _, _⟩ := alive_B h hl
      cases hu with | lsl hu =>
      obtain ⟨_, ad, rfl, _⟩ := hu b n hb
      cases hv with | c hv =>
      have hvn : v = .slice none 0 0 := by cases hv; rfl
      subst hvn
      have hg : ∀ op', (eqGuard op' t xo yo (.slice (some ad) len (n - off)) (.slice none 0 0)).run P w = .ok () w := fun op' => eqGuard_plain (fun _ => by simp) (by simp)
      split at he
      · simp only [Option.some.injEq] at he
        subst he
        refine yields_v ?_ rfl
        rw [Sem.run_bind, hg, Result.andThen_ok]
        simp [binOp, equal_nil (desc_slice hT ‹_›)]
      · simp only [Option.some.injEq] at he
        subst he
        refine yields_v ?_ rfl
        rw [Sem.run_bind, hg, Result.andThen_ok]
        simp [binOp, equal_nil (desc_slice hT ‹_›)]
      · cases he
    · cases he
  · cases he

theorem aun_sound {op : UnOp} {x z : AV} {u : Value} (hu : ARep w F B u x) (he : aun op x = some z) : Yields P U w F B (Op.unary op u) z := by
  unfold aun at he
  split at he
  · obtain rfl := rep_v hu
    split at he <;> first
      | (simp only [Option.some.injEq] at he; subst he; exact yields_v (by simp [Op.unary, Op.intArith, Op.intBits]) rfl)
      | cases he
  · obtain rfl := rep_v hu
    split at he <;> first
      | (simp only [Option.some.injEq] at he; subst he; exact yields_v (by simp [Op.unary]) rfl)
      | cases he
  · cases he

theorem aconv_sound (hT : Tab.ok P T = true) {src dst : TypeId} {x z : AV} {u : Value} (hu : ARep w F B u x) (he : aconv T src dst x = some z) : Yields P U w F B (convert src dst u) z := by
  unfold aconv at he
  split at he
  · obtain rfl := rep_v hu
    split at he
    · simp only [Option.some.injEq] at he
      subst he
      exact yields_v (by simp [convert, run_underlying (desc_int hT ‹T.desc src = _›), run_underlying (desc_int hT ‹T.desc dst = _›), Conv.intToInt]) rfl
    · cases he
  · obtain rfl := rep_v hu
    split at he
    · simp only [Option.some.injEq] at he
      subst he
      exact yields_v (by simp [convert, run_underlying (desc_string hT ‹T.desc src = _›), run_underlying (desc_string hT ‹T.desc dst = _›)]) rfl
    · cases he
  · cases he

theorem part_sound (hT : Tab.ok P T = true) {t : TypeId} {cs : List AV} {z : AV} {off : Nat} {C : Array Value} (hs : C.size = cs.length) (hr : ∀ (i : Nat) x v, cs[i]? = some x → C[i]? = some v → ARep w F B v x) (hlo : ∀ x ∈ cs, x.lo U)
    (he : apart T t cs off = some z) : Yields P U w F B (part t C off) z := by
  unfold apart at he
  split at he
  · rename_i i hi
    cases hag : i.d.isAgg with
    | true =>
      rw [hag] at he
      simp only [if_true] at he
      split at he
      · rename_i hfit
        simp only [Option.some.injEq] at he
        subst he
        refine ⟨.agg (C.extract off (off + i.size)), by simp [part, get_isAgg hT hi, hag, get_size hT hi], .agg ?_ ?_, ?_⟩
        · simp only [Array.size_extract, List.length_take, List.length_drop]; omega
        · intro k x v hx hv
          rw [List.getElem?_take] at hx
          split at hx
          · rw [List.getElem?_drop] at hx
            refine hr (off + k) x v hx ?_
            rw [Array.getElem?_extract] at hv
            split at hv
            · exact hv
            · cases hv
          · cases hx
        · simp only [AV.lo]
          exact fun x hx => hlo x (List.mem_of_mem_drop (List.mem_of_mem_take hx))
      · cases he
    | false =>
      rw [hag] at he
      simp only [Bool.false_eq_true, if_false] at he
      have hoff : off < cs.length := (List.getElem?_eq_some_iff.1 he).1
      have hoffC : off < C.size := by omega
      refine ⟨C[off], by simp [part, get_isAgg hT hi, hag, Array.getElem?_eq_getElem hoffC], hr off z _ he (Array.getElem?_eq_getElem hoffC), hlo z (List.mem_of_getElem? he)⟩
  · cases he

theorem nil_ptr {o : Oper} {xo : Operand} (ho : o.op = .nilCheck xo) {ad : Addr} (h : a.eval xo = .pointer (some ad)) : (execOp a.eval o).run P w = .ok (.value (.pointer (some ad))) w := by
  simp [execOp, ho, h]
theorem nil_fn {o : Oper} {xo : Operand} (ho : o.op = .nilCheck xo) {g : FuncId} {f c : Array Value} (h : a.eval xo = .func (.func g) f c) : (execOp a.eval o).run P w = .ok (.value (.func (.func g) f c)) w := by
  simp [execOp, ho, h]

theorem nil_sound (h : RelB E s a w F B U) {o : Oper} {x z : AV} {xo : Operand} (ho : o.op = .nilCheck xo) (hx : ARep w F B (a.eval xo) x) (hlo : x.lo U) (he : anil s x = some z) :
    ∃ v, (execOp a.eval o).run P w = .ok (.value v) w ∧ ARep w F B v z ∧ z.lo U := by
  have hx' := hx
  generalize hv : a.eval xo = v at hx hx'
  unfold anil at he
  split at he
  · split at he
    · cases he
      obtain ⟨b, n, _, hb, _, _⟩ := alive_B h ‹_›
      cases hx with | ref hx =>
      obtain rfl := hx b n hb
      exact ⟨_, nil_ptr ho hv, hx', hlo⟩
    · cases he
  · split at he
    · cases he
      obtain ⟨b, n, _, hb, _, _⟩ := alive_B h ‹_›
      cases hx with | eref hx =>
      obtain rfl := hx b n hb
      exact ⟨_, nil_ptr ho hv, hx', hlo⟩
    · cases he
  · cases he
    cases hx with | c hx =>
    cases hx with | rp f h1 h2 =>
    exact ⟨_, nil_ptr ho hv, hx', hlo⟩
  · cases he
    cases hx with | fn h1 h2 =>
    exact ⟨_, nil_fn ho hv, hx', hlo⟩
  · cases he
    cases hx with | c hx =>
    cases hx with | fn h1 h2 =>
    exact ⟨_, nil_fn ho hv, hx', hlo⟩
  · cases he

end
end Go.Proofs.Ytdglnjgjonbfbaa.Fw
