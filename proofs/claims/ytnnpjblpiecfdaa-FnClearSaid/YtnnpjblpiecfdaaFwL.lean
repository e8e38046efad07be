/- Stores and append. -/
import Derived.Test.YtnnpjblpiecfdaaFwK
namespace Go.Proofs.Ytnnpjblpiecfdaa.Fw
open Go.RowKit
set_option linter.unusedVariables false
set_option linter.unusedSimpArgs false

section
variable {P : Program} {T : Tab} {E : Entry} {s : AState} {a : Act} {w : World} {F : Nat → Prop} {B : Beta} {U : Nat → Prop}

theorem one_rep (h : RelB E s a w F B U) {v : Value} {x : AV} (hx : ARep w F B v x) (ho : x.one s = true) : v.oneCell' = true := by
  cases x with
  | c x => cases hx with | c hx => exact (crep_cells hx).2
  | fn f caps => cases hx; rfl
  | ref l off =>
    obtain ⟨b, n, _, hb, _, _⟩ := alive_B h ho
    cases hx with | ref hx => rw [hx b n hb]; rfl
  | eref l sz i off =>
    obtain ⟨b, n, _, hb, _, _⟩ := alive_B h ho
    cases hx with | eref hx => rw [hx b n hb]; rfl
  | lsl l sz off len =>
    obtain ⟨b, n, _, hb, _, _⟩ := alive_B h ho
    cases hx with | lsl hx =>
    obtain ⟨_, ad, hv, _⟩ := hx b n hb
    rw [hv]; rfl
  | _ => simp [AV.one] at ho

theorem cells_one (h : RelB E s a w F B U) {C : Array Value} {cs : List AV} (hC : Cells w F B C cs) (ho : (cs.all fun y => y.one s) = true) : ∀ v ∈ C.toList, v.oneCell' = true := by
  intro v hv
  obtain ⟨i, hi, rfl⟩ := List.mem_iff_getElem.1 hv
  have hi' : i < cs.length := by rw [← hC.1]; simpa using hi
  exact one_rep h (hC.2 i cs[i] _ (List.getElem?_eq_getElem hi') (by simp at hi ⊢)) (by simpa using List.all_eq_true.1 ho _ (List.getElem_mem hi'))

theorem splice_array {l : List Value} {C : Array Value} {off k : Nat} (hfit : off + l.length ≤ C.size) :
    ((C.toList.take off ++ l ++ C.toList.drop (off + l.length)).toArray).size = C.size ∧
    ∀ v, ((C.toList.take off ++ l ++ C.toList.drop (off + l.length)).toArray)[k]? = some v → (off ≤ k ∧ k < off + l.length ∧ l[k - off]? = some v) ∨ ((k < off ∨ off + l.length ≤ k) ∧ C[k]? = some v) := by
  refine ⟨by simp only [List.size_toArray, List.length_append, List.length_take, List.length_drop, Array.length_toList]; omega, fun v hv => ?_⟩
  simp only [List.getElem?_toArray, List.append_assoc] at hv
  by_cases hk : k < off
  · rw [List.getElem?_append_left (by simp only [List.length_take, Array.length_toList]; omega), List.getElem?_take, if_pos hk] at hv
    exact .inr ⟨.inl hk, by simpa using hv⟩
  · rw [List.getElem?_append_right (by simp only [List.length_take, Array.length_toList]; omega), List.length_take, Array.length_toList (xs := C), Nat.min_eq_left (by omega)] at hv
    by_cases hk2 : k < off + l.length
    · rw [List.getElem?_append_left (by omega)] at hv
      exact .inl ⟨by omega, hk2, hv⟩
    · rw [List.getElem?_append_right (by omega), List.getElem?_drop] at hv
      refine .inr ⟨.inr (by omega), ?_⟩
      rw [show off + l.length + (k - off - l.length) = k by omega] at hv
      simpa using hv

theorem splice_get {cells cs : List AV} {off k : Nat} {x : AV} (hfit : off + cs.length ≤ cells.length) (h : (splice cells off cs)[k]? = some x) :
    (off ≤ k ∧ k < off + cs.length ∧ cs[k - off]? = some x) ∨ ((k < off ∨ off + cs.length ≤ k) ∧ cells[k]? = some x) := by
  simp only [splice] at h
  by_cases hk : k < off
  · rw [List.getElem?_append_left (by simp only [List.length_take]; omega), List.getElem?_take, if_pos hk] at h
    exact .inr ⟨.inl hk, h⟩
  · rw [List.getElem?_append_right (by simp only [List.length_take]; omega), List.length_take, Nat.min_eq_left (by omega)] at h
    by_cases hk2 : k < off + cs.length
    · rw [List.getElem?_append_left (by omega)] at h
      exact .inl ⟨by omega, hk2, h⟩
    · rw [List.getElem?_append_right (by omega), List.getElem?_drop] at h
      refine .inr ⟨.inr (by omega), ?_⟩
      rw [show off + cs.length + (k - off - cs.length) = k by omega] at h
      exact h

theorem storeVar_run (hT : Tab.ok P T = true) {t : TypeId} {i : TI} (ht : T.get t = some i) {b off : Nat} {C : Array Value} {e : TypeId} {v : Value} (hC : w.heap[b]? = some (.cells C e (0, 0))) (hs : v.cells.size = i.size) (hfit : off + v.cells.size ≤ C.size)
    (h1 : ∀ u ∈ v.cells.toList, u.oneCell' = true) : (storeVar t ⟨b, off, none⟩ v).run P w = .ok () (w.setRow b (C.toList.take off ++ v.cells.toList ++ C.toList.drop (off + v.cells.toList.length)).toArray) := by
  have := run_storeCells_at P b off e v.cells.toList 0 C w hC (by simpa using hfit) h1
  simp only [Nat.add_zero] at this
  simp [storeVar, get_size hT ht, hs, this]

theorem store_sound (hT : Tab.ok P T = true) (h : RelB E s a w F B U) {nid : Nat} {o : Oper} {t : TypeId} {p x : Operand} {i : TI} {cs : List AV} {l : Nat} {o' : AObj} (ho : o.op = .store t p x) (ht : T.get t = some i) (hc : cellsOf s (s.eval x) = some cs)
    (hb : cs.length = i.size ∧ (cs.all fun y => y.one s) = true) (he : writeAt s cs (s.eval p) = some (l, o')) : Does P o a w (After E (s.eff nid (.put l o')) a (fun l => U l ∨ l = nid) .junk) := by
  obtain ⟨hv, hvl⟩ := cells_rep h (eval_rep h x) (eval_lo h x) hc
  have hone := cells_one h hv hb.2
  have hsz : (a.eval x).cells.size = i.size := by rw [hv.1, hb.1]
  have hp := eval_rep h p
  have fin : ∀ (b off : Nat) (C : Array Value) (e : TypeId) (n : Nat) (o0 : AObj), s.objs l = some o0 → B l = some (b, n) → a.eval p = .pointer (some ⟨b, off, none⟩) → w.heap[b]? = some (.cells C e (0, 0)) → off + (a.eval x).cells.size ≤ C.size → o'.lo U → (o0.isBox = true → o'.isBox = true) →
      (ObjOk (w.setRow b (C.toList.take off ++ (a.eval x).cells.toList ++ C.toList.drop (off + (a.eval x).cells.toList.length)).toArray) F B b n o') →
      Does P o a w (After E (s.eff nid (.put l o')) a (fun l => U l ∨ l = nid) .junk) := by
    intro b off C e n o0 ho0 hBl hpe hC hfit holo hbx hok
    refine ⟨undef, w.setRow b (C.toList.take off ++ (a.eval x).cells.toList ++ C.toList.drop (off + (a.eval x).cells.toList.length)).toArray, ?_, .inr ⟨?_, rfl⟩⟩
    · refine ⟨F, B, RelB.more ?_ nid, .junk, by simp only [AV.lo]⟩
      exact h.set hBl ho0 (fun k hk => setRow_other w b k _ hk) (setRow_size w b _) rfl rfl rfl hok holo hbx
    · simp only [execOp, ho, hpe, Instr.storeAt, Instr.sureAddr]
      simp [storeVar_run hT ht hC hsz hfit hone]
  cases hpx : s.eval p with
  | ref k off =>
    rw [hpx] at he hp
    simp only [writeAt] at he
    split at he
    · rename_i t' cells ho0
      split at he
      · rename_i hfit
        cases he
        obtain ⟨b, n, hBl, C, hC, hCs, hCr⟩ := obj_B h ho0
        generalize hpe : a.eval p = pv at hp
        cases hp with | ref hp =>
        have hF : ∀ c, F c → (w.setRow b (C.toList.take off ++ (a.eval x).cells.toList ++ C.toList.drop (off + (a.eval x).cells.toList.length)).toArray).heap[c]? = w.heap[c]? := fun c hc => setRow_other w b c _ (fun e => h.apart _ b n hBl (e ▸ hc))
        refine fin b off C t' n _ ho0 hBl (hpe.trans (hp b n hBl)) hC (by rw [hv.1, hCs]; exact hfit) ?_ (fun _ => rfl) ?_
        · intro y hy
          simp only [splice, List.mem_append] at hy
          rcases hy with hy | hy | hy
          · exact (h.wfO _ _ ho0).2 y (List.mem_of_mem_take hy)
          · exact hvl y hy
          · exact (h.wfO _ _ ho0).2 y (List.mem_of_mem_drop hy)
        · have hl : (a.eval x).cells.toList.length = cs.length := by rw [Array.length_toList, hv.1]
          refine ⟨_, setRow_heap w b C _ t' (0, 0) hC, ?_, fun k y u hy hu => ?_⟩
          · rw [(splice_array (k := 0) (by rw [hl, hCs]; exact hfit)).1, hCs]
            simp only [splice, List.length_append, List.length_take, List.length_drop]; omega
          · rcases splice_get hfit hy with ⟨g1, g2, g3⟩ | ⟨g1, g3⟩ <;> rcases (splice_array (k := k) (by rw [hl, hCs]; exact hfit)).2 u hu with ⟨q1, q2, q3⟩ | ⟨q1, q3⟩
            · exact (hv.2 (k - off) y u g3 (by simpa using q3)).keep' (fun _ h => h) hF
            · omega
            · omega
            · exact (hCr k y u g3 q3).keep' (fun _ h => h) hF
      · cases he
    · cases he
  | eref k sz r off =>
    rw [hpx] at he hp
    simp only [writeAt] at he
    split at he
    · rename_i e sz' rows ho0
      split at he
      · rename_i hszz
        subst hszz
        split at he
        · rename_i row hrow
          split at he
          · rename_i hfit
            split at he
            · rename_i vs hvs
              cases he
              obtain ⟨b, n, hBl, C, hC, hCs, hrl, hmx, hCr⟩ := obj_B h ho0
              generalize hpe : a.eval p = pv at hp
              cases hp with | eref hp =>
              have hF : ∀ c, F c → (w.setRow b (C.toList.take (r * sz + off) ++ (a.eval x).cells.toList ++ C.toList.drop (r * sz + off + (a.eval x).cells.toList.length)).toArray).heap[c]? = w.heap[c]? := fun c hc => setRow_other w b c _ (fun e => h.apart _ b n hBl (e ▸ hc))
              have hl : (a.eval x).cells.toList.length = cs.length := by rw [Array.length_toList, hv.1]
              have hcv := toCVs_some hvs
              have hvl' : vs.length = cs.length := by rw [hcv, List.length_map]
              have hr : r < rows.length := (List.getElem?_eq_some_iff.1 hrow).1
              have hrs := (hCr r row hrow).1
              have hspan : r * sz + sz ≤ C.size := by
                rw [hCs]
                have : (r + 1) * sz ≤ n * sz := Nat.mul_le_mul_right _ (by omega)
                rw [Nat.add_mul] at this
                omega
              refine fin b (r * sz + off) C e n _ ho0 hBl (hpe.trans (hp b n hBl)) hC (by rw [hv.1]; omega) (by trivial) (by simp [AObj.isBox]) ?_
              refine ⟨_, setRow_heap w b C _ e (0, 0) hC, ?_, by simpa using hrl, hmx, fun q row' hrow' => ?_⟩
              · rw [(splice_array (k := 0) (by rw [hl]; omega)).1, hCs]
              · by_cases hq : q = r
                · subst hq
                  rw [List.getElem?_set_self hr] at hrow'
                  cases hrow'
                  refine ⟨by simp only [List.length_append, List.length_take, List.length_drop]; omega, fun k y u hy hu => ?_⟩
                  have hk : k < sz := by
                    have := (List.getElem?_eq_some_iff.1 hy).1
                    simp only [List.length_append, List.length_take, List.length_drop] at this; omega
                  rcases (splice_array (k := q * sz + k) (by rw [hl]; omega)).2 u hu with ⟨q1, q2, q3⟩ | ⟨q1, q3⟩
                  · rw [List.getElem?_append_right (by simp only [List.length_take]; omega), List.length_take, Nat.min_eq_left (by omega), List.getElem?_append_left (by omega)] at hy
                    have := hv.2 (k - off) (.c y) u (by rw [hcv, List.getElem?_map, hy]; rfl) (by
                      rw [← q3]; simp only [Array.getElem?_toList]; congr 1; omega)
                    cases this with | c this => exact this.keep (fun _ h => h) hF
                  · refine ((hCr q row hrow).2 k y u ?_ q3).keep (fun _ h => h) hF
                    rcases q1 with q1 | q1
                    · rw [List.getElem?_append_left (by simp only [List.length_take]; omega), List.getElem?_take, if_pos (by omega)] at hy
                      exact hy
                    · rw [List.getElem?_append_right (by simp only [List.length_take]; omega), List.length_take, Nat.min_eq_left (by omega), List.getElem?_append_right (by omega), List.getElem?_drop] at hy
                      rw [← hy]; congr 1; omega
                · rw [List.getElem?_set_ne (fun e => hq e.symm)] at hrow'
                  refine ⟨(hCr q row' hrow').1, fun k y u hy hu => ?_⟩
                  have hk : k < sz := by rw [← (hCr q row' hrow').1]; exact (List.getElem?_eq_some_iff.1 hy).1
                  have hdis : q * sz + k < r * sz ∨ r * sz + sz ≤ q * sz + k := by
                    rcases Nat.lt_or_gt_of_ne hq with g | g
                    · left
                      have : (q + 1) * sz ≤ r * sz := Nat.mul_le_mul_right _ g
                      rw [Nat.add_mul] at this; omega
                    · right
                      have : (r + 1) * sz ≤ q * sz := Nat.mul_le_mul_right _ g
                      rw [Nat.add_mul] at this; omega
                  rcases (splice_array (k := q * sz + k) (by rw [hl]; omega)).2 u hu with ⟨q1, q2, q3⟩ | ⟨q1, q3⟩
                  · omega
                  · exact ((hCr q row' hrow').2 k y u hy q3).keep (fun _ h => h) hF
            · cases he
          · cases he
        · cases he
      · cases he
    · rename_i e sz' rows ho0
      split at he
      · rename_i hszz
        subst hszz
        split at he
        · rename_i row hrow
          split at he
          · rename_i hfit
            cases he
            obtain ⟨b, n, hBl, C, hC, hCs, hrl, hmx, hCr⟩ := obj_B h ho0
            generalize hpe : a.eval p = pv at hp
            cases hp with | eref hp =>
            have hF : ∀ c, F c → (w.setRow b (C.toList.take (r * sz + off) ++ (a.eval x).cells.toList ++ C.toList.drop (r * sz + off + (a.eval x).cells.toList.length)).toArray).heap[c]? = w.heap[c]? := fun c hc => setRow_other w b c _ (fun e => h.apart _ b n hBl (e ▸ hc))
            have hl : (a.eval x).cells.toList.length = cs.length := by rw [Array.length_toList, hv.1]
            have hr : r < rows.length := (List.getElem?_eq_some_iff.1 hrow).1
            have hrs := (hCr r row hrow).1
            have hspan : r * sz + sz ≤ C.size := by
              rw [hCs]
              have : (r + 1) * sz ≤ n * sz := Nat.mul_le_mul_right _ (by omega)
              rw [Nat.add_mul] at this
              omega
            refine fin b (r * sz + off) C e n _ ho0 hBl (hpe.trans (hp b n hBl)) hC (by rw [hv.1]; omega) ?_ (by simp [AObj.isBox]) ?_
            · intro row' hrow' y hy
              rcases List.mem_or_eq_of_mem_set hrow' with hm | rfl
              · exact (h.wfO _ _ ho0).2 row' hm y hy
              · rcases List.mem_append.1 hy with hy | hy
                · exact (h.wfO _ _ ho0).2 row (List.mem_of_getElem? hrow) y (List.mem_of_mem_take hy)
                · rcases List.mem_append.1 hy with hy | hy
                  · exact hvl y hy
                  · exact (h.wfO _ _ ho0).2 row (List.mem_of_getElem? hrow) y (List.mem_of_mem_drop hy)
            refine ⟨_, setRow_heap w b C _ e (0, 0) hC, ?_, by simpa using hrl, hmx, fun q row' hrow' => ?_⟩
            · rw [(splice_array (k := 0) (by rw [hl]; omega)).1, hCs]
            · by_cases hq : q = r
              · subst hq
                rw [List.getElem?_set_self hr] at hrow'
                cases hrow'
                refine ⟨by simp only [List.length_append, List.length_take, List.length_drop]; omega, fun k y u hy hu => ?_⟩
                have hk : k < sz := by
                  have := (List.getElem?_eq_some_iff.1 hy).1
                  simp only [List.length_append, List.length_take, List.length_drop] at this; omega
                rcases (splice_array (k := q * sz + k) (by rw [hl]; omega)).2 u hu with ⟨q1, q2, q3⟩ | ⟨q1, q3⟩
                · rw [List.getElem?_append_right (by simp only [List.length_take]; omega), List.length_take, Nat.min_eq_left (by omega), List.getElem?_append_left (by omega)] at hy
                  have := hv.2 (k - off) y u hy (by
                    rw [← q3]; simp only [Array.getElem?_toList]; congr 1; omega)
                  exact this.keep' (fun _ h => h) hF
                · refine ((hCr q row hrow).2 k y u ?_ q3).keep' (fun _ h => h) hF
                  rcases q1 with q1 | q1
                  · rw [List.getElem?_append_left (by simp only [List.length_take]; omega), List.getElem?_take, if_pos (by omega)] at hy
                    exact hy
                  · rw [List.getElem?_append_right (by simp only [List.length_take]; omega), List.length_take, Nat.min_eq_left (by omega), List.getElem?_append_right (by omega), List.getElem?_drop] at hy
                    rw [← hy]; congr 1; omega
              · rw [List.getElem?_set_ne (fun e => hq e.symm)] at hrow'
                refine ⟨(hCr q row' hrow').1, fun k y u hy hu => ?_⟩
                have hk : k < sz := by rw [← (hCr q row' hrow').1]; exact (List.getElem?_eq_some_iff.1 hy).1
                have hdis : q * sz + k < r * sz ∨ r * sz + sz ≤ q * sz + k := by
                  rcases Nat.lt_or_gt_of_ne hq with g | g
                  · left
                    have : (q + 1) * sz ≤ r * sz := Nat.mul_le_mul_right _ g
                    rw [Nat.add_mul] at this; omega
                  · right
                    have : (r + 1) * sz ≤ q * sz := Nat.mul_le_mul_right _ g
                    rw [Nat.add_mul] at this; omega
                rcases (splice_array (k := q * sz + k) (by rw [hl]; omega)).2 u hu with ⟨q1, q2, q3⟩ | ⟨q1, q3⟩
                · omega
                · exact ((hCr q row' hrow').2 k y u hy q3).keep' (fun _ h => h) hF
          · cases he
        · cases he
      · cases he
    · cases he
  | _ => rw [hpx] at he; simp [writeAt] at he

end
end Go.Proofs.Ytnnpjblpiecfdaa.Fw
