/- All quiet operations together. -/
import Derived.Test.YtnnpjblpiecfdaaFwF
namespace Go.Proofs.Ytnnpjblpiecfdaa.Fw
open Go.RowKit

section
variable {P : Program} {T : Tab} {E : Entry} {s : AState} {a : Act} {w : World} {F : Nat → Prop} {B : Beta} {U : Nat → Prop}

theorem of_yields {o : Oper} {m : Sem Value} {z : AV} (ho : execOp a.eval o = (do pure (.value (← m)))) (h : Yields P U w F B m z) : ∃ v, (execOp a.eval o).run P w = .ok (.value v) w ∧ ARep w F B v z ∧ z.lo U := by
  obtain ⟨v, h1, h2⟩ := h
  exact ⟨v, by rw [ho, Sem.run_bind, h1]; rfl, h2⟩

theorem caps_rep (h : RelB E s a w F B U) (caps : Array Operand) : (caps.map a.eval).size = (caps.toList.map s.eval).length ∧ (∀ (i : Nat) x v, (caps.toList.map s.eval)[i]? = some x → (caps.map a.eval)[i]? = some v → ARep w F B v x) ∧ (∀ x ∈ caps.toList.map s.eval, x.lo U) := by
  refine ⟨by simp, fun i x v hx hv => ?_, fun x hx => ?_⟩
  · simp only [List.getElem?_map, Option.map_eq_some_iff] at hx
    simp only [Array.getElem?_map, Option.map_eq_some_iff] at hv
    obtain ⟨y, hy, rfl⟩ := hx
    obtain ⟨y', hy', rfl⟩ := hv
    simp only [Array.getElem?_toList] at hy
    rw [hy] at hy'
    cases hy'
    exact eval_rep h y
  · obtain ⟨y, _, rfl⟩ := List.mem_map.1 hx
    exact eval_lo h y

theorem builtin_sound (hT : Tab.ok P T = true) (h : RelB E s a w F B U) {b : Builtin} {argTypes : Array TypeId} {ty : TypeId} {vs : Array Value} {xs : List AV} {z : AV} {R : Prop} (hs : vs.size = xs.length)
    (hr : ∀ (i : Nat) x v, xs[i]? = some x → vs[i]? = some v → ARep w F B v x) (hlo : ∀ x ∈ xs, x.lo U) (he : abuiltin T s b argTypes.toList xs = some z)
    (k : ∀ m : Sem Value, (∀ consts, builtin b argTypes ty consts vs = (do pure (.value (← m)))) → Yields P U w F B m z → R) : R := by
  unfold abuiltin at he
  split at he
  · split at he
    · rename_i t x ht
      obtain rfl : argTypes = #[t] := by rw [← Array.toList_inj]; exact ht
      obtain ⟨v, rfl⟩ : ∃ v, vs = #[v] := by
        obtain ⟨l⟩ := vs
        match l, hs with
        | [v], _ => exact ⟨v, rfl⟩
      exact k _ (fun _ => rfl) (len_sound hT h (hr 0 x v rfl rfl) he)
    · cases he
  · split at he
    · rename_i x rest
      obtain ⟨v, l, rfl⟩ : ∃ v l, vs = (v :: l).toArray := by
        obtain ⟨l⟩ := vs
        match l, hs with
        | v :: l, _ => exact ⟨v, l, rfl⟩
      refine k (Builtin.max_ argTypes ty (v :: l).toArray) (fun _ => rfl) ?_
      obtain ⟨r, h1, h2⟩ := fold_sound (P := P) (U := U) (w := w) (F := F) (B := B) (f := amax2) (g := Builtin.max2) (fun _ _ _ _ _ h1 h2 h3 => max2_sound h1 h2 h3) rest l x z v (by simpa using hs) (fun i y u hy hu => hr (i + 1) y u (by simpa using hy) (by simpa using hu)) (hr 0 x v rfl rfl) (hlo x (by simp)) he
      exact ⟨r, by simpa [Builtin.max_] using h1, h2⟩
    · cases he
  · split at he
    · rename_i x rest
      obtain ⟨v, l, rfl⟩ : ∃ v l, vs = (v :: l).toArray := by
        obtain ⟨l⟩ := vs
        match l, hs with
        | v :: l, _ => exact ⟨v, l, rfl⟩
      refine k (Builtin.min_ argTypes ty (v :: l).toArray) (fun _ => rfl) ?_
      obtain ⟨r, h1, h2⟩ := fold_sound (P := P) (U := U) (w := w) (F := F) (B := B) (f := amin2) (g := Builtin.min2) (fun _ _ _ _ _ h1 h2 h3 => min2_sound h1 h2 h3) rest l x z v (by simpa using hs) (fun i y u hy hu => hr (i + 1) y u (by simpa using hy) (by simpa using hu)) (hr 0 x v rfl rfl) (hlo x (by simp)) he
      exact ⟨r, by simpa [Builtin.min_] using h1, h2⟩
    · cases he
  · cases he

theorem apure_sound (hT : Tab.ok P T = true) (h : RelB E s a w F B U) {o : Oper} {z : AV} (he : apure T s o.op = some z) :
    ∃ v, (execOp a.eval o).run P w = .ok (.value v) w ∧ ARep w F B v z ∧ z.lo U := by
  unfold apure at he
  split at he
  case h_1 x ho => cases he; exact ⟨_, by simp [execOp, ho], eval_rep h x, eval_lo h x⟩
  case h_2 x ho => cases he; exact ⟨_, by simp [execOp, ho], eval_rep h x, eval_lo h x⟩
  case h_3 c x y ho =>
    split at he
    · rename_i t hc
      cases he
      have := rep_v (hc ▸ eval_rep h c)
      cases t
      · exact ⟨a.eval y, by simp [execOp, ho, this, asBool], by simpa using eval_rep h y, by simpa using eval_lo h y⟩
      · exact ⟨a.eval x, by simp [execOp, ho, this, asBool], by simpa using eval_rep h x, by simpa using eval_lo h x⟩
    · cases he
  case h_4 t p ho =>
    split at he
    · rename_i i hi
      split at he
      · rename_i cs hcs
        exact of_yields (by simp [execOp, ho]) (load_sound hT h hi hcs (eval_rep h p) (eval_lo h p) he)
      · cases he
    · cases he
  case h_5 x ho => exact nil_sound h ho (eval_rep h x) (eval_lo h x) he
  case h_6 op t x y yt ho => exact of_yields (m := do eqGuard op t x y (a.eval x) (a.eval y); binOp op t (a.eval x) (a.eval y)) (by simp [execOp, ho]) (abin_sound hT h (eval_rep h x) (eval_rep h y) he)
  case h_7 op t x ho => exact of_yields (by simp [execOp, ho]) (aun_sound (eval_rep h x) he)
  case h_8 src dst x ho => exact of_yields (by simp [execOp, ho]) (aconv_sound hT (eval_rep h x) he)
  case h_9 t x lo hi mx ho => exact of_yields (by simp [execOp, ho]) (slice_sound hT h (eval_rep h x) (eval_lo h x) he)
  case h_10 t x f ho => exact of_yields (by simp [execOp, ho]) (fieldAddr_sound hT h (eval_rep h x) he (eval_lo h x))
  case h_11 t x f ho =>
    split at he
    · rename_i i hi
      split at he
      · rename_i fs hd
        split at he
        · rename_i ft off cs hf hx
          obtain ⟨fields, hu, hfs⟩ := desc_struct hT (t := t) (fs := fs) (by unfold Tab.desc; rw [hi, ← hd])
          obtain ⟨fl, hfl, hft, hoff⟩ := struct_field hfs hf
          have hx1 := eval_rep h x
          have hx2 := eval_lo h x
          rw [hx] at hx1 hx2
          refine of_yields (m := Instr.field t (a.eval x) f) (by simp [execOp, ho]) ?_
          generalize a.eval x = v at hx1
          cases hx1 with | agg h1 h2 =>
          simp only [AV.lo] at hx2
          obtain ⟨r, hr, hr'⟩ := part_sound (P := P) (U := U) hT h1 h2 hx2 he
          exact ⟨r, by simp [Instr.field, run_underlying hu, hfl, hft, hoff, asAgg, hr], hr'⟩
        · cases he
      · cases he
    · cases he
  case h_12 t x i ho => exact of_yields (by simp [execOp, ho]) (indexAddr_sound hT h (eval_rep h x) (eval_rep h i) he (eval_lo h x))
  case h_13 t x i ho => exact of_yields (by simp [execOp, ho]) (index_sound hT (eval_rep h x) (eval_rep h i) he (eval_lo h x))
  case h_14 x i ho =>
    split at he
    · rename_i cs hx
      have hx1 := eval_rep h x
      have hx2 := eval_lo h x
      rw [hx] at hx1 hx2
      refine of_yields (m := Instr.extract (a.eval x) i) (by simp [execOp, ho]) ?_
      generalize a.eval x = v at hx1
      cases hx1 with | @tup C _ h1 h2 =>
      simp only [AV.lo] at hx2
      have hi : i < C.size := by have := (List.getElem?_eq_some_iff.1 he).1; omega
      exact ⟨C[i], by simp [Instr.extract, Array.getElem?_eq_getElem hi], h2 i z _ he (Array.getElem?_eq_getElem hi), hx2 z (List.mem_of_getElem? he)⟩
    · cases he
  case h_15 fn first caps ho =>
    split at he
    · rename_i f hf
      cases he
      obtain ⟨h1, h2, h3⟩ := caps_rep h caps
      have hf0 : first = #[] := by simpa using hf
      subst hf0
      exact ⟨.func (.func f) #[] (caps.map a.eval), by simp [execOp, ho, Instr.makeFunc], .fn h1 h2, by simp only [AV.lo]; exact h3⟩
    · cases he
  case h_16 c ho =>
    split at he
    · rename_i b hb
      obtain ⟨h1, h2, h3⟩ := caps_rep h c.args
      refine builtin_sound (ty := o.type) hT h h1 h2 h3 he ?_
      intro m hm
      exact of_yields (by simp [execOp, ho, resolve, hb, invoke, hm])
    · cases he
  case h_17 t x ho => exact of_yields (by simp [execOp, ho]) (arrP_sound hT (eval_rep h x) he)
  case h_18 => cases he

end
end Go.Proofs.Ytnnpjblpiecfdaa.Fw
