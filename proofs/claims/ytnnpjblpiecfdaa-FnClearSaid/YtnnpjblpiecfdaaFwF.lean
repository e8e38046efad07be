/- Addresses, parts, slices, lengths; and all quiet operations together. -/
import Derived.Test.YtnnpjblpiecfdaaFwE
namespace Go.Proofs.Ytnnpjblpiecfdaa.Fw
open Go.RowKit

section
variable {P : Program} {T : Tab} {E : Entry} {s : AState} {a : Act} {w : World} {F : Nat → Prop} {B : Beta} {U : Nat → Prop}

theorem rp_drop {cells : List CV} {ad : Addr} (off : Nat) (h : CRep w F (.pointer (some ad)) (.rp cells)) : CRep w F (.pointer (some (ad.add off))) (.rp (cells.drop off)) := by
  cases h with | rp f h1 h2 =>
  refine .rp (fun j => f (off + j)) (fun j x hx => ?_) (fun j x hx => ?_)
  · rw [List.getElem?_drop] at hx
    rw [block_add, add_add']
    exact h1 _ _ hx
  · rw [List.getElem?_drop] at hx
    exact h2 _ _ hx

theorem get_info (hT : Tab.ok P T = true) {t : TypeId} {i : TI} (h : T.get t = some i) : ∃ info, P.info? t = some info ∧ info.size = i.size := by
  obtain ⟨info, z, h1, h2, _⟩ := (Tab.get_spec hT h).info
  exact ⟨info, h1, h2⟩

theorem field_place (hT : Tab.ok P T = true) {ft : TypeId} {j : TI} (hj : T.get ft = some j) (hz : j.size ≠ 0) {f : Field} (hf : f.type = ft) (ad : Addr) : (fieldPlace ad f).run P w = .ok (ad.add f.offset) w := by
  subst hf
  simp [fieldPlace, get_size hT hj, hz]

theorem struct_field {fields : Array Field} {fs : List (TypeId × Nat)} (h : fields.toList.map (fun f => (f.type, f.offset)) = fs) {k : Nat} {ft : TypeId} {off : Nat} (hk : fs[k]? = some (ft, off)) : ∃ f, fields[k]? = some f ∧ f.type = ft ∧ f.offset = off := by
  subst h
  simp only [List.getElem?_map, Option.map_eq_some_iff, Prod.mk.injEq] at hk
  obtain ⟨f, hf, h1, h2⟩ := hk
  exact ⟨f, by simpa using hf, h1, h2⟩

theorem fieldAddr_sound (hT : Tab.ok P T = true) (h : RelB E s a w F B U) {t : TypeId} {f : Nat} {x z : AV} {v : Value} (hx : ARep w F B v x) (he : afieldAddr T s t f x = some z) (hlo : x.lo U) : Yields P U w F B (Instr.fieldAt t v f) z := by
  unfold afieldAddr at he
  split at he
  · rename_i i hi
    split at he
    · rename_i fs hd
      split at he
      · rename_i ft off hf
        split at he
        · rename_i j hj
          split at he
          · cases he
          · rename_i hz
            obtain ⟨fields, hu, hfs⟩ := desc_struct hT (t := t) (fs := fs) (by unfold Tab.desc; rw [hi, ← hd])
            obtain ⟨fl, hfl, hft, hoff⟩ := struct_field hfs hf
            have key : ∀ ad, v = .pointer (some ad) → (Instr.fieldAt t v f).run P w = .ok (.pointer (some (ad.add off))) w := by
              rintro ad rfl
              simp [Instr.fieldAt, run_underlying hu, hfl, Instr.sureAddr, field_place hT hj hz hft, hoff]
            split at he
            · split at he
              · cases he
                obtain ⟨b, n, _, hb, _, _⟩ := alive_B h ‹_›
                cases hx with | ref hx =>
                refine ⟨_, key _ (hx b n hb), .ref fun b' n' hb' => ?_, by simp only [AV.lo] at hlo ⊢; exact hlo⟩
                rw [hb] at hb'; cases hb'
                rw [add_plain]
              · cases he
            · split at he
              · cases he
                obtain ⟨b, n, _, hb, _, _⟩ := alive_B h ‹_›
                cases hx with | eref hx =>
                refine ⟨_, key _ (hx b n hb), .eref fun b' n' hb' => ?_, by simp only [AV.lo] at hlo ⊢; exact hlo⟩
                rw [hb] at hb'; cases hb'
                rw [add_plain, Nat.add_assoc]
              · cases he
            · cases he
              cases hx with | c hx =>
              have hx' := hx
              cases hx with | rp g h1 h2 =>
              exact ⟨_, key _ rfl, .c (rp_drop off hx'), lo_c _ _⟩
            · cases he
        · cases he
      · cases he
    · cases he
  · cases he

theorem arrP_sound (hT : Tab.ok P T = true) {t : TypeId} {x z : AV} {v : Value} (hx : ARep w F B v x) (he : aarrP T t x = some z) : Yields P U w F B (Instr.arrayAt t v) z := by
  unfold aarrP at he
  split at he
  · rename_i nl full rows
    split at he
    · rename_i n e hd
      have hu := desc_array hT hd
      split at he
      · rename_i hc
        obtain ⟨hall, h0, hn⟩ := hc
        cases he
        have hrow : ∀ j, j < rows.length → ∃ y, rows[j]? = some [y] ∧ (rows.getD j []).getD 0 default = y := by
          intro j hj
          have h1 := List.all_eq_true.1 hall rows[j] (List.getElem_mem hj)
          have h2 : rows[j].length = 1 := by simpa using h1
          cases hr : rows[j] with
          | nil => rw [hr] at h2; simp at h2
          | cons y ys =>
            rw [hr] at h2
            have : ys = [] := by cases ys with
              | nil => rfl
              | cons a b => simp at h2
            subst this
            exact ⟨y, by rw [List.getElem?_eq_getElem hj, hr], by simp [List.getD_eq_getElem?_getD, List.getElem?_eq_getElem hj, hr]⟩
        cases hx with | c hx =>
        cases hx with
        | nil => simp at hn; omega
        | @sl _ _ _ _ ad m cap g hm hc hfull h1 h2 =>
        subst hm
        refine ⟨.pointer (some ad), ?_, .c (.rp (fun j => g j 0) (fun j y hy => ?_) (fun j y hy => ?_)), lo_c _ _⟩
        · simp [Instr.arrayAt, run_underlying hu, Nat.not_lt.2 hn]
        · rw [List.getElem?_map, Option.map_eq_some_iff] at hy
          obtain ⟨i, hi, e⟩ := hy
          obtain ⟨hlt, hi⟩ := List.getElem?_eq_some_iff.1 hi
          rw [List.getElem_range] at hi
          subst hi
          rw [List.length_range] at hlt
          obtain ⟨y', h3, h4⟩ := hrow j (by omega)
          rw [h4] at e
          subst e
          have := h1 j _ h3 0 y' rfl
          simpa using this
        · rw [List.getElem?_map, Option.map_eq_some_iff] at hy
          obtain ⟨i, hi, e⟩ := hy
          obtain ⟨hlt, hi⟩ := List.getElem?_eq_some_iff.1 hi
          rw [List.getElem_range] at hi
          subst hi
          rw [List.length_range] at hlt
          obtain ⟨y', h3, h4⟩ := hrow j (by omega)
          rw [h4] at e
          subst e
          exact h2 j _ h3 0 y' rfl
      · cases he
    · cases he
  · cases he
theorem indexAddr_sound (hT : Tab.ok P T = true) (h : RelB E s a w F B U) {t : TypeId} {x i z : AV} {v u : Value} (hx : ARep w F B v x) (hi : ARep w F B u i) (he : aindexAddr T s t x i = some z) (hlo : x.lo U) : Yields P U w F B (Instr.indexAt t v u) z := by
  unfold aindexAddr at he
  split at he
  · rename_i k m
    obtain rfl := rep_v hi
    split at he
    · rename_i e hd
      have hu := desc_slice hT hd
      split at he
      · rename_i j hj
        split at he
        · rename_i full sz rows
          split at he
          · rename_i hsz
            subst hsz
            split at he
            · rename_i h0
              split at he
              · rename_i row hrow
                cases he
                have hlt : m.toNat < rows.length := (List.getElem?_eq_some_iff.1 hrow).1
                cases hx with | c hx =>
                cases hx with
                | nil => simp at hlt
                | @sl _ _ _ _ ad _ cap g hn hc hfull h1 h2 =>
                refine ⟨.pointer (some (ad.add (m.toNat * j.size))), ?_, .c (.rp (g m.toNat) (fun q y hy => ?_) (fun q y hy => h2 _ _ hrow q y hy)), lo_c _ _⟩
                · have hm : 0 ≤ m ∧ m < (rows.length : Int) := by omega
                  subst hn
                  simp [Instr.indexAt, asIntOf, run_underlying hu, hm, get_size hT hj]
                · rw [block_add, add_add']
                  exact h1 _ _ hrow q y hy
              · cases he
            · cases he
          · cases he
        · rename_i l sz off len
          split at he
          · rename_i hsz
            subst hsz
            split at he
            · rename_i hl
              split at he
              · rename_i hm
                cases he
                obtain ⟨b, n, _, hb, _, _⟩ := alive_B h hl
                cases hx with | lsl hx =>
                obtain ⟨h1, ad, rfl, h2⟩ := hx b n hb
                refine ⟨.pointer (some (ad.add (m.toNat * j.size))), ?_, .eref fun b' n' hb' => ?_, by simp only [AV.lo] at hlo ⊢; exact hlo⟩
                · simp [Instr.indexAt, asIntOf, run_underlying hu, hm, get_size hT hj]
                · rw [hb] at hb'; cases hb'
                  rw [h2 (by omega), add_plain, Nat.add_mul, Nat.add_zero]
              · cases he
            · cases he
          · cases he
        · cases he
      · cases he
    · rename_i n e hd
      have hu := desc_array hT hd
      split at he
      · rename_i j hj
        split at he
        · rename_i hm
          have key : ∀ ad, v = .pointer (some ad) → (Instr.indexAt t v (.int k m)).run P w = .ok (.pointer (some (ad.add (m.toNat * j.size)))) w := by
            rintro ad rfl
            simp [Instr.indexAt, asIntOf, run_underlying hu, Instr.sureAddr, hm, get_size hT hj]
          split at he
          · split at he
            · cases he
              obtain ⟨b, n, _, hb, _, _⟩ := alive_B h ‹_›
              cases hx with | ref hx =>
              refine ⟨_, key _ (hx b n hb), .ref fun b' n' hb' => ?_, by simp only [AV.lo] at hlo ⊢; exact hlo⟩
              rw [hb] at hb'; cases hb'
              rw [add_plain]
            · cases he
          · split at he
            · cases he
              obtain ⟨b, n, _, hb, _, _⟩ := alive_B h ‹_›
              cases hx with | eref hx =>
              refine ⟨_, key _ (hx b n hb), .eref fun b' n' hb' => ?_, by simp only [AV.lo] at hlo ⊢; exact hlo⟩
              rw [hb] at hb'; cases hb'
              rw [add_plain, Nat.add_assoc]
            · cases he
          · cases he
            cases hx with | c hx =>
            have hx' := hx
            cases hx with | rp g h1 h2 =>
            exact ⟨_, key _ rfl, .c (rp_drop _ hx'), lo_c _ _⟩
          · cases he
        · cases he
      · cases he
    · cases he
  · cases he

theorem index_sound (hT : Tab.ok P T = true) {t : TypeId} {x i z : AV} {v u : Value} (hx : ARep w F B v x) (hi : ARep w F B u i) (he : aindex T t x i = some z) (hlo : x.lo U) : Yields P U w F B (Instr.index t v u) z := by
  unfold aindex at he
  split at he
  · rename_i k m
    obtain rfl := rep_v hi
    split at he
    · rename_i b hd
      obtain rfl := rep_v hx
      split at he
      · rename_i h0
        split at he
        · rename_i c hc
          cases he
          exact yields_v (by simp [Instr.index, asIntOf, run_underlying (desc_string hT hd), h0, hc]) rfl
        · cases he
      · cases he
    · rename_i n e cs hd
      cases hx with | @agg C _ h1 h2 =>
      split at he
      · rename_i hm
        split at he
        · rename_i j hj
          simp only [AV.lo] at hlo
          obtain ⟨r, hr, hr'⟩ := part_sound (P := P) (U := U) hT h1 h2 hlo he
          refine ⟨r, ?_, hr'⟩
          simp [Instr.index, asIntOf, run_underlying (desc_array hT hd), hm, get_size hT hj, hr]
        · cases he
      · cases he
    · cases he
  · cases he

theorem bound_sound {n d k : Nat} {x : Option AV} {v : Option Value} {code : BoundsCode} (hx : ∀ y, x = some y → ∃ u, v = some u ∧ ARep w F B u y) (hv : x = none → v = none) (he : bound? n d x = some k) :
    (v = none ∧ k = d) ∨ ∃ u, v = some u ∧ k ≤ n ∧ (Instr.sliceBound u n code).run P w = .ok k w := by
  unfold bound? at he
  split at he
  · cases he
    exact .inl ⟨hv rfl, rfl⟩
  · rename_i j m
    split at he
    · cases he
      obtain ⟨u, h1, h2⟩ := hx _ rfl
      obtain rfl := rep_v h2
      have hle : m.toNat ≤ n := by omega
      exact .inr ⟨_, h1, hle, by simp [Instr.sliceBound, asIntOf, *]⟩
    · cases he
  · cases he

theorem bounds_sound {isSl : Bool} {len cap h l : Nat} {lo hi : Option AV} {vl vh : Option Value} (hlc : len ≤ cap) (hlo : ∀ y, lo = some y → ∃ u, vl = some u ∧ ARep w F B u y) (hlo' : lo = none → vl = none) (hhi : ∀ y, hi = some y → ∃ u, vh = some u ∧ ARep w F B u y) (hhi' : hi = none → vh = none)
    (eh : bound? len len hi = some h) (el : bound? h 0 lo = some l) : (Instr.sliceBounds isSl len cap vl vh none).run P w = .ok (l, h, cap) w ∧ l ≤ h ∧ h ≤ len := by
  have hh : (match vh, (none : Option Value) with
      | some v, some _ => Instr.sliceBound v cap .slice3B
      | some v, none => Instr.sliceBound v cap (if isSl then .sliceAcap else .sliceAlen)
      | none, none => pure len
      | none, some _ => stuck "Slice: max without high").run P w = .ok h w ∧ h ≤ len := by
    unfold bound? at eh
    split at eh
    · cases eh
      rw [hhi' rfl]
      exact ⟨rfl, Nat.le_refl _⟩
    · rename_i j m
      split at eh
      · cases eh
        obtain ⟨u, h1, h2⟩ := hhi _ rfl
        obtain rfl := rep_v h2
        rw [h1]
        have hm : 0 ≤ m ∧ m ≤ (cap : Int) := by omega
        exact ⟨by simp [Instr.sliceBound, asIntOf, hm], by omega⟩
      · cases eh
    · cases eh
  have hl : (match vl with
      | some v => Instr.sliceBound v h (if (none : Option Value).isSome then .slice3C else .sliceB)
      | none => pure 0).run P w = .ok l w ∧ l ≤ h := by
    rcases bound_sound (P := P) (code := .sliceB) hlo hlo' el with ⟨h1, h2⟩ | ⟨u, h1, h2, h3⟩
    · rw [h1, h2]; exact ⟨rfl, Nat.zero_le _⟩
    · rw [h1]; exact ⟨h3, h2⟩
  obtain ⟨hh1, hh2⟩ := hh
  obtain ⟨hl1, hl2⟩ := hl
  refine ⟨?_, hl2, hh2⟩
  clear hlo hlo' hhi hhi' eh el
  cases vh <;> cases vl <;> simp_all [Instr.sliceBounds]

theorem opt_rep {x : Option Operand} (h : RelB E s a w F B U) : (∀ y, x.map s.eval = some y → ∃ u, x.map a.eval = some u ∧ ARep w F B u y) ∧ (x.map s.eval = none → x.map a.eval = none) := by
  cases x with
  | none => exact ⟨fun y hy => (by cases hy), fun _ => rfl⟩
  | some x => exact ⟨fun y hy => ⟨_, rfl, by cases hy; exact eval_rep h x⟩, fun hy => (by cases hy)⟩

theorem add_zero' (a : Addr) : a.add 0 = a := by simp [Addr.add]

theorem slice_sound (hT : Tab.ok P T = true) (h : RelB E s a w F B U) {t : TypeId} {x z : AV} {v : Value} {lo hi mx : Option Operand} (hx : ARep w F B v x) (hxlo : x.lo U)
    (he : aslice T s t x (lo.map s.eval) (hi.map s.eval) (mx.map s.eval) = some z) : Yields P U w F B (Instr.sliceAt t v (lo.map a.eval) (hi.map a.eval) (mx.map a.eval)) z := by
  have hL := opt_rep (x := lo) h
  have hH := opt_rep (x := hi) h
  cases mx with
  | some m => simp [aslice] at he
  | none =>
  simp only [Option.map_none] at he ⊢
  unfold aslice at he
  simp only at he
  split at he
  · rename_i b hd
    obtain rfl := rep_v hx
    split at he
    · rename_i hh eh
      split at he
      · rename_i ll el
        cases he
        obtain ⟨h1, _, _⟩ := bounds_sound (P := P) (isSl := false) (Nat.le_refl _) hL.1 hL.2 hH.1 hH.2 eh el
        refine yields_v ?_ rfl
        simp [Instr.sliceAt, Instr.slice, run_underlying (desc_string hT hd), h1]
      · cases he
    · cases he
  · rename_i e nl full sz rows hd
    split at he
    · rename_i j hj
      split at he
      · rename_i hsz
        subst hsz
        split at he
        · rename_i hh eh
          split at he
          · rename_i ll el
            cases he
            have hu := desc_slice hT hd
            cases hx with | c hx =>
            cases hx with
            | nil =>
              obtain ⟨h1, h2, h3⟩ := bounds_sound (P := P) (isSl := true) (Nat.le_refl _) hL.1 hL.2 hH.1 hH.2 eh el
              simp only [List.length_nil] at h1 h2 h3
              obtain rfl : hh = 0 := by omega
              obtain rfl : ll = 0 := by omega
              refine ⟨.slice none 0 0, ?_, .c .nil, lo_c _ _⟩
              simp [Instr.sliceAt, Instr.slice, run_underlying hu, h1, get_size hT hj]
            | @sl _ _ _ _ ad _ cap g hn hc hfull h1 h2 =>
              subst hn
              obtain ⟨hb, hb2, hb3⟩ := bounds_sound (P := P) (isSl := true) hc hL.1 hL.2 hH.1 hH.2 eh el
              refine ⟨.slice (some (if cap = ll then ad else ad.add (ll * j.size))) (hh - ll) (cap - ll), ?_, .c ?_, lo_c _ _⟩
              · simp only [Instr.sliceAt, Instr.slice, Sem.run_bind, run_underlying hu, Result.andThen_ok, hb, get_size hT hj]
                by_cases hcl : cap = ll <;> simp [hcl]
              · have hlen : ((rows.take hh).drop ll).length = hh - ll := by simp only [List.length_drop, List.length_take]; omega
                refine .sl (fun i q => g (ll + i) q) hlen.symm (by omega) (by simp) ?_ ?_
                · intro i row hr q y hy
                  have hr' := hr
                  rw [List.getElem?_drop, List.getElem?_take] at hr
                  split at hr
                  · have hne : cap ≠ ll := by have := (List.getElem?_eq_some_iff.1 hr').1; omega
                    have := h1 _ _ hr q y hy
                    rw [if_neg hne, block_add, add_add', ← Nat.add_assoc, ← Nat.add_mul]
                    exact this
                  · cases hr
                · intro i row hr q y hy
                  rw [List.getElem?_drop, List.getElem?_take] at hr
                  split at hr
                  · exact h2 _ _ hr q y hy
                  · cases hr
          · cases he
        · cases he
      · cases he
    · cases he
  · rename_i e l sz off len hd
    split at he
    · rename_i j hj
      split at he
      · rename_i hsz
        subst hsz
        split at he
        · rename_i hl
          split at he
          · rename_i hh eh
            split at he
            · rename_i ll el
              cases he
              have hu := desc_slice hT hd
              obtain ⟨b, n, _, hb, _, _⟩ := alive_B h hl
              cases hx with | lsl hx =>
              obtain ⟨h1, ad, rfl, h2⟩ := hx b n hb
              obtain ⟨hb1, hb2, hb3⟩ := bounds_sound (P := P) (isSl := true) (len := len) (cap := n - off) (by omega) hL.1 hL.2 hH.1 hH.2 eh el
              refine ⟨.slice (some (if n - off = ll then ad else ad.add (ll * j.size))) (hh - ll) (n - off - ll), ?_, .lsl fun b' n' hb' => ?_, by simp only [AV.lo] at hxlo ⊢; exact hxlo⟩
              · simp only [Instr.sliceAt, Instr.slice, Sem.run_bind, run_underlying hu, Result.andThen_ok, hb1, get_size hT hj]
                by_cases hcl : n - off = ll <;> simp [hcl]
              · rw [hb] at hb'; cases hb'
                refine ⟨by omega, _, by rw [Nat.sub_sub], fun hc => ?_⟩
                by_cases hz : off + ll = 0
                · obtain rfl : off = 0 := by omega
                  obtain rfl : ll = 0 := by omega
                  rw [Nat.zero_mul, add_zero', ite_self]
                  simpa using h2 (.inr rfl)
                · rw [if_neg (by omega), h2 (by omega), add_plain, ← Nat.add_mul]
            · cases he
          · cases he
        · cases he
      · cases he
    · cases he
  · cases he

theorem len_sound (hT : Tab.ok P T = true) (h : RelB E s a w F B U) {t ty : TypeId} {x z : AV} {v : Value} (hx : ARep w F B v x) (he : alen T s t x = some z) : Yields P U w F B (Builtin.len_ #[t] ty #[v]) z := by
  unfold alen at he
  split at he
  · obtain rfl := rep_v hx
    split at he
    · cases he
      exact yields_v (by simp [Builtin.len_, run_underlying (desc_string hT ‹_›), goInt]) rfl
    · cases he
  · split at he
    · cases he
      cases hx with | c hx =>
      refine yields_v ?_ rfl
      cases hx <;> simp [Builtin.len_, run_underlying (desc_slice hT ‹_›), goInt, *]
    · cases he
  · split at he
    · split at he
      · cases he
        obtain ⟨b, n, _, hb, _, _⟩ := alive_B h ‹_›
        cases hx with | lsl hx =>
        obtain ⟨_, ad, rfl, _⟩ := hx b n hb
        exact yields_v (by simp [Builtin.len_, run_underlying (desc_slice hT ‹_›), goInt]) rfl
      · cases he
    · cases he
  · cases he

theorem fold_sound {f : AV → AV → Option AV} {g : Value → Value → Sem Value} (hf : ∀ x y z u v, f x y = some z → ARep w F B u x → ARep w F B v y → ∃ r, (g u v).run P w = .ok r w ∧ ARep w F B r z ∧ z.lo U) :
    ∀ (ys : List AV) (vs : List Value) (x z : AV) (u : Value), vs.length = ys.length → (∀ (i : Nat) y v, ys[i]? = some y → vs[i]? = some v → ARep w F B v y) → ARep w F B u x → x.lo U → afold f x ys = some z →
      ∃ r, (vs.foldlM g u).run P w = .ok r w ∧ ARep w F B r z ∧ z.lo U
  | [], [], x, z, u, _, _, hx, hlo, he => by
    simp only [afold, Option.some.injEq] at he
    subst he
    exact ⟨u, rfl, hx, hlo⟩
  | y :: ys, v :: vs, x, z, u, hl, hr, hx, hlo, he => by
    simp only [afold] at he
    split at he
    · rename_i q hq
      obtain ⟨r, h1, h2, h3⟩ := hf x y q u v hq hx (hr 0 y v rfl rfl)
      obtain ⟨r', h1', h2'⟩ := fold_sound hf ys vs q z r (by simpa using hl) (fun i y v hy hv => hr (i + 1) y v (by simpa using hy) (by simpa using hv)) h2 h3 he
      exact ⟨r', by simp [List.foldlM_cons, h1, h1'], h2'⟩
    · cases he
  | [], v :: vs, _, _, _, hl, _, _, _, _ => by simp at hl
  | y :: ys, [], _, _, _, hl, _, _, _, _ => by simp at hl

theorem max2_sound {x y z : AV} {u v : Value} (he : amax2 x y = some z) (hu : ARep w F B u x) (hv : ARep w F B v y) : ∃ r, (Builtin.max2 u v).run P w = .ok r w ∧ ARep w F B r z ∧ z.lo U := by
  unfold amax2 at he
  split at he
  · obtain rfl := rep_v hu
    obtain rfl := rep_v hv
    cases he
    exact ⟨_, by simp [Builtin.max2], mk_v rfl, lo_c _ _⟩
  · cases he

theorem min2_sound {x y z : AV} {u v : Value} (he : amin2 x y = some z) (hu : ARep w F B u x) (hv : ARep w F B v y) : ∃ r, (Builtin.min2 u v).run P w = .ok r w ∧ ARep w F B r z ∧ z.lo U := by
  unfold amin2 at he
  split at he
  · obtain rfl := rep_v hu
    obtain rfl := rep_v hv
    cases he
    exact ⟨_, by simp [Builtin.min2], mk_v rfl, lo_c _ _⟩
  · cases he

end
end Go.Proofs.Ytnnpjblpiecfdaa.Fw
