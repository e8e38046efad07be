/- Append; and every operation but calls. -/
import Derived.Test.YtnnpjblpiecfdaaFwL
namespace Go.Proofs.Ytnnpjblpiecfdaa.Fw
open Go.RowKit
set_option linter.unusedVariables false
set_option linter.unusedSimpArgs false

section
variable {P : Program} {T : Tab} {E : Entry} {s : AState} {a : Act} {w : World} {F : Nat → Prop} {B : Beta} {U : Nat → Prop}

/-- A flat list of values holds rows. -/
def FlatRows (w : World) (F : Nat → Prop) (l : List Value) (sz : Nat) (rows : List (List CV)) : Prop :=
  l.length = rows.length * sz ∧ ∀ (i : Nat) row, rows[i]? = some row → row.length = sz ∧ ∀ (j : Nat) x v, row[j]? = some x → l[i * sz + j]? = some v → CRep w F v x

theorem FlatRows.keep {w' : World} {l : List Value} {sz : Nat} {rows : List (List CV)} (h : FlatRows w F l sz rows) (hw : ∀ b, F b → w'.heap[b]? = w.heap[b]?) : FlatRows w' F l sz rows :=
  ⟨h.1, fun i row hr => ⟨(h.2 i row hr).1, fun j x v hx hv => ((h.2 i row hr).2 j x v hx hv).keep (fun _ h => h) hw⟩⟩

theorem FlatRows.append {l1 l2 : List Value} {sz : Nat} {r1 r2 : List (List CV)} (h1 : FlatRows w F l1 sz r1) (h2 : FlatRows w F l2 sz r2) : FlatRows w F (l1 ++ l2) sz (r1 ++ r2) := by
  refine ⟨by rw [List.length_append, List.length_append, h1.1, h2.1, Nat.add_mul], fun i row hr => ?_⟩
  by_cases hi : i < r1.length
  · rw [List.getElem?_append_left hi] at hr
    obtain ⟨g1, g2⟩ := h1.2 i row hr
    refine ⟨g1, fun j x v hx hv => g2 j x v hx ?_⟩
    have hj : j < sz := by rw [← g1]; exact (List.getElem?_eq_some_iff.1 hx).1
    have : (i + 1) * sz ≤ r1.length * sz := Nat.mul_le_mul_right _ hi
    rw [Nat.add_mul] at this
    rw [List.getElem?_append_left (by rw [h1.1]; omega)] at hv
    exact hv
  · rw [List.getElem?_append_right (by omega)] at hr
    obtain ⟨g1, g2⟩ := h2.2 _ row hr
    refine ⟨g1, fun j x v hx hv => g2 j x v hx ?_⟩
    have : r1.length * sz ≤ i * sz := Nat.mul_le_mul_right _ (by omega)
    rw [List.getElem?_append_right (by rw [h1.1]; omega), h1.1] at hv
    rw [← hv, Nat.sub_mul]
    congr 1
    omega

/-- What a slice value holds, laid out flat. -/
structure SrcOk (w : World) (F : Nat → Prop) (v : Value) (sz : Nat) (rows : List (List CV)) (A : Option Addr) (c : Nat) (l : List Value) : Prop where
  val : v = .slice A rows.length c
  cap : rows.length ≤ c
  cell : ∀ ad, A = some ad → ∀ (j : Nat) u, l[j]? = some u → w.cell? (ad.add j) = some u
  nil : A = none → rows = [] ∧ c = 0
  one : ∀ u ∈ l, u.oneCell' = true
  flat : FlatRows w F l sz rows

theorem rows_src (h : RelB E s a w F B U) {v : Value} {y : AV} {sz : Nat} {rows : List (List CV)} (hp : 0 < sz) (hx : ARep w F B v y) (he : rowsIn s sz y = some rows) (hall : (rows.all fun r => r.length == sz) = true) :
    ∃ A c l, SrcOk w F v sz rows A c l ∧ (∀ nl full z r, y = .c (.sl nl full z r) → full = true → c = rows.length) := by
  have hlen : ∀ r ∈ rows, r.length = sz := fun r hr => by simpa using List.all_eq_true.1 hall r hr
  cases y with
  | c x =>
    cases x with
    | sl nl full sz' rows' =>
      simp only [rowsIn] at he
      split at he
      · rename_i hs
        subst hs
        cases he
        cases hx with | c hx =>
        cases hx with
        | nil =>
          refine ⟨none, 0, [], ⟨rfl, Nat.le_refl _, fun _ h => (by cases h), fun _ => ⟨rfl, rfl⟩, fun u hu => (by cases hu), ⟨by simp, fun i row hr => by simp at hr⟩⟩, fun _ _ _ _ _ _ => rfl⟩
        | @sl _ _ _ _ ad n cap f hn hc hfull h1 h2 =>
          have hget : ∀ k, k < rows.length * sz' → ∃ row x, rows[k / sz']? = some row ∧ row[k % sz']? = some x := by
            intro k hk
            have hd : k / sz' < rows.length := by rw [Nat.div_lt_iff_lt_mul hp]; exact hk
            have hr := List.getElem?_eq_getElem hd
            have hl := hlen _ (List.getElem_mem hd)
            have hm : k % sz' < rows[k / sz'].length := by rw [hl]; exact Nat.mod_lt _ hp
            exact ⟨_, _, hr, List.getElem?_eq_getElem hm⟩
          refine ⟨some ad, cap, (List.range (rows.length * sz')).map fun k => f (k / sz') (k % sz'), ⟨by rw [hn], hc, ?_, fun e => (by cases e), ?_, ⟨by simp, fun i row hr => ⟨hlen row (List.mem_of_getElem? hr), fun j x v hx hv => ?_⟩⟩⟩, fun nl full z r e hf => ?_⟩
          · intro ad' e j u hu
            cases e
            simp only [List.getElem?_map, Option.map_eq_some_iff] at hu
            obtain ⟨k, hk, rfl⟩ := hu
            obtain ⟨hk1, hk2⟩ := List.getElem?_eq_some_iff.1 hk
            simp only [List.getElem_range, List.length_range] at hk1 hk2
            subst hk2
            obtain ⟨row, x, g1, g2⟩ := hget j hk1
            have := (h1 _ _ g1 _ _ g2).2
            rwa [Nat.div_add_mod'] at this
          · intro u hu
            obtain ⟨k, hk, rfl⟩ := List.mem_map.1 hu
            obtain ⟨row, x, g1, g2⟩ := hget k (by simpa using hk)
            exact (crep_cells (h2 _ _ g1 _ _ g2)).2
          · have hj : j < sz' := by rw [← hlen row (List.mem_of_getElem? hr)]; exact (List.getElem?_eq_some_iff.1 hx).1
            simp only [List.getElem?_map, Option.map_eq_some_iff] at hv
            obtain ⟨k, hk, rfl⟩ := hv
            obtain ⟨hk1, hk2⟩ := List.getElem?_eq_some_iff.1 hk
            simp only [List.getElem_range] at hk2
            subst hk2
            rw [show (i * sz' + j) / sz' = i by rw [Nat.add_comm, Nat.add_mul_div_right _ _ hp, Nat.div_eq_of_lt hj, Nat.zero_add], show (i * sz' + j) % sz' = j by rw [Nat.add_comm, Nat.add_mul_mod_self_right, Nat.mod_eq_of_lt hj]]
            exact h2 i row hr j x hx
          · cases e
            exact hfull hf
      · unfold nilRows at he
        split at he
        · cases he
          cases hx with | c hx =>
          cases hx with
          | nil =>
            refine ⟨none, 0, [], ⟨rfl, Nat.le_refl _, fun _ h => (by cases h), fun _ => ⟨rfl, rfl⟩, fun u hu => (by cases hu), ⟨by simp, fun i row hr => by simp at hr⟩⟩, fun _ _ _ _ _ _ => rfl⟩
          | @sl _ _ _ _ ad n cap f hn hc hfull h1 h2 =>
            refine ⟨some ad, cap, [], ⟨by rw [hn], hc, fun _ _ j u hu => by simp at hu, fun e => (by cases e), fun u hu => (by cases hu), ⟨by simp, fun i row hr => by simp at hr⟩⟩, fun nl full z r e hf => ?_⟩
            cases e
            exact hfull hf
        · cases he
    | _ => simp [rowsIn] at he
  | lsl l z off len =>
    simp only [rowsIn] at he
    split at he
    · rename_i e z' rows' ho
      split at he
      · rename_i hs
        obtain ⟨hz1, hz2, hfit⟩ := hs
        have hz1' := hz1.symm
        have hz2' := hz2.symm
        subst hz1' hz2'
        cases he
        obtain ⟨b, n, hb, C, hC, hCs, hrl, hmx, hCr⟩ := obj_B h ho
        cases hx with | lsl hx =>
        obtain ⟨hoff, ad, rfl, had⟩ := hx b n hb
        have hrows : ((rows'.drop off).take len).length = len := by simp only [List.length_take, List.length_drop]; omega
        have hspan : off * sz + len * sz ≤ C.size := by
          rw [hCs, ← Nat.add_mul]; exact Nat.mul_le_mul_right _ hoff
        have hget : ∀ (i j : Nat) (row : List CV), ((rows'.drop off).take len)[i]? = some row → i < len ∧ rows'[off + i]? = some row := by
          intro i j row hr
          rw [List.getElem?_take] at hr
          split at hr
          · rw [List.getElem?_drop] at hr
            exact ⟨‹_›, hr⟩
          · cases hr
        refine ⟨some ad, n - off, (C.toList.drop (off * sz)).take (len * sz), ⟨by rw [hrows], by omega, ?_, fun e => (by cases e), ?_, ⟨?_, fun i row hr => ?_⟩⟩, fun _ _ _ _ e => by cases e⟩
        · intro ad' e j u hu
          cases e
          rw [List.getElem?_take] at hu
          split at hu
          · rename_i hj
            have hlt : off < n := by
              rcases Nat.lt_or_ge off n with g | g
              · exact g
              · obtain rfl : len = 0 := by omega
                rw [Nat.zero_mul] at hj; omega
            rw [had (.inl hlt), add_plain, cell_blk hC]
            rw [List.getElem?_drop] at hu
            simpa using hu
          · cases hu
        · intro u hu
          obtain ⟨k, hk, rfl⟩ := List.mem_iff_getElem.1 hu
          simp only [List.length_take, List.length_drop, Array.length_toList] at hk
          have hk' : k < len * sz := by omega
          have hd : k / sz < len := by rw [Nat.div_lt_iff_lt_mul hp]; exact hk'
          have hlt : off + k / sz < rows'.length := by omega
          obtain ⟨g1, g2⟩ := hCr _ _ (List.getElem?_eq_getElem hlt)
          have hm : k % sz < rows'[off + k / sz].length := by rw [g1]; exact Nat.mod_lt _ hp
          have hpos : (off + k / sz) * sz + k % sz = off * sz + k := by
            rw [Nat.add_mul, Nat.add_assoc, Nat.div_add_mod']
          refine (crep_cells (g2 (k % sz) _ _ (List.getElem?_eq_getElem hm) ?_)).2
          rw [hpos, List.getElem_take, List.getElem_drop]
          simp
        · simp only [List.length_take, List.length_drop, Array.length_toList, hrows]
          rw [Nat.min_eq_left (by omega)]
        · obtain ⟨g1, g2⟩ := hget i 0 row hr
          obtain ⟨g3, g4⟩ := hCr _ _ g2
          refine ⟨g3, fun j x v hx hv => g4 j x v hx ?_⟩
          rw [List.getElem?_take] at hv
          split at hv
          · rw [List.getElem?_drop] at hv
            rw [Nat.add_mul, Nat.add_assoc]
            simpa using hv
          · cases hv
      · cases he
    · cases he
  | _ => simp [rowsIn] at he

theorem SrcOk.src {v : Value} {sz : Nat} {rows : List (List CV)} {A : Option Addr} {c : Nat} {l : List Value} (h : SrcOk w F v sz rows A c l) {t e : TypeId} (hu : P.underlying t = some (.slice e)) : Src P sz t v rows.length l w := by
  obtain rfl := h.val
  cases A with
  | some ad => exact Src.ofSlice w hu ad _ _ l h.flat.1 (h.cell ad rfl) h.one
  | none =>
    obtain ⟨rfl, rfl⟩ := h.nil rfl
    have : l = [] := List.eq_nil_of_length_eq_zero (by simpa using h.flat.1)
    subst this
    exact Src.ofNil w hu 0

theorem RelB.drew (h : RelB E s a w F B U) : RelB E s a w.drew F B U := by
  have hF : ∀ b, F b → w.drew.heap[b]? = w.heap[b]? := fun _ _ => rfl
  exact { h with
    tmps := fun i x v hx hv => (h.tmps i x v hx hv).keep' (fun _ h => h) hF
    objs := fun l b n o hb ho => (h.objs l b n o hb ho).keep (N := fun _ => True) (fun _ h => h) hF (fun _ _ => .inl rfl) rfl (AObj.lo_mono (fun _ _ => trivial) (h.wfO l o ho).2)
    flt := h.flt, blt := h.blt, frame := h.frame, grown := h.grown, os := h.os, tape := h.tape, output := h.output }

theorem flat_arr {C : Array Value} {l : List Value} {sz n : Nat} {rows : List (List CV)} (hf : FlatRows w F l sz rows) (ht : C.toList.take l.length = l) (i : Nat) (row : List CV) (hr : rows[i]? = some row) : row.length = sz ∧ ∀ (j : Nat) x v, row[j]? = some x → C[i * sz + j]? = some v → CRep w F v x := by
  obtain ⟨g1, g2⟩ := hf.2 i row hr
  refine ⟨g1, fun j x v hx hv => g2 j x v hx ?_⟩
  have hj : j < sz := by rw [← g1]; exact (List.getElem?_eq_some_iff.1 hx).1
  have hi : i < rows.length := (List.getElem?_eq_some_iff.1 hr).1
  have hlt : i * sz + j < l.length := by
    rw [hf.1]
    have : (i + 1) * sz ≤ rows.length * sz := Nat.mul_le_mul_right _ hi
    rw [Nat.add_mul] at this
    omega
  rw [← ht, List.getElem?_take, if_pos hlt]
  simpa using hv

theorem zero_len (hT : Tab.ok P T = true) {t : TypeId} {i : TI} (h : T.get t = some i) : i.zero.length = i.size := (Tab.get_spec hT h).zlen

theorem append_sound (hT : Tab.ok P T = true) (h : RelB E s a w F B U) {nid : Nat} (hn : ¬ U nid) {o : Oper} {c : Call} {t : TypeId} {xo yo : Operand} {z : AV} {eff : Eff} (ho : o.op = .call c) (hcb : c.callee = .builtin .append) (hct : c.argTypes.toList = [t, t]) (hca : c.args.toList = [xo, yo])
    (he : aappend T s nid t (s.eval xo) (s.eval yo) = some (z, eff)) : Does P o a w (After E (s.eff nid eff) a (fun l => U l ∨ l = nid) z) := by
  have hrun : ∀ v w', (Builtin.append_ #[t, t] o.type #[a.eval xo, a.eval yo]).run P w = .ok v w' → (execOp a.eval o).run P w = .ok (.value v) w' := by
    intro v w' hr
    have e1 : c.args.map a.eval = #[a.eval xo, a.eval yo] := by
      rw [← Array.toList_inj, Array.toList_map, hca]
      rfl
    have e2 : c.argTypes = #[t, t] := by rw [← Array.toList_inj]; exact hct
    have hm : ∀ consts, builtin .append c.argTypes o.type consts (c.args.map a.eval) = (do pure (.value (← Builtin.append_ c.argTypes o.type (c.args.map a.eval)))) := fun _ => rfl
    have hx : execOp a.eval o = (do pure (.value (← Builtin.append_ c.argTypes o.type (c.args.map a.eval)))) := by simp [execOp, ho, resolve, hcb, invoke, hm]
    rw [hx, Sem.run_bind, e1, e2, hr]
    rfl
  unfold aappend at he
  split at he
  · rename_i e hd
    have hu := desc_slice hT hd
    split at he
    · rename_i j hj
      obtain ⟨info, zv, h1, h2, h3, h4, h5, h6⟩ := zero_cells (w := w) (F := F) hT hj
      split at he
      · rename_i old new hold hnew
        split at he
        · rename_i hc
          obtain ⟨hpos, hall, hbytes, hmax⟩ := hc
          have hxr := eval_rep h xo
          have hyr := eval_rep h yo
          obtain ⟨A2, c2, l2, hs2, _⟩ := rows_src h hpos hyr hnew hall
          have hsrc2 := hs2.src (P := P) hu
          have hbN : (old.length + new.length) * info.bytes ≤ 140737488355328 := by
            rw [h3]; exact hbytes
          split at he
          · rename_i l sz off len hx
            split at he
            · rename_i hoff
              obtain ⟨hoff, hl0⟩ := hoff
              subst hoff
              split at he
              · rename_i e' sz' rows ho0
                split at he
                · rename_i hee
                  have hee' := hee.symm
                  subst hee'
                  simp only [Option.some.injEq, Prod.mk.injEq] at he
                  obtain ⟨rfl, rfl⟩ := he
                  rw [hx] at hold hxr
                  simp only [rowsIn, ho0] at hold
                  split at hold
                  · rename_i hs
                    obtain ⟨rfl, rfl, hle⟩ := hs
                    simp only [List.drop_zero, Option.some.injEq] at hold
                    have hlen : old.length = len := by rw [← hold, List.length_take]; omega
                    obtain ⟨b, n, hb, C, hC, hCs, hrl, hmx, hCr⟩ := obj_B h ho0
                    have hxv := hxr
                    generalize hxe : a.eval xo = xv at hxv
                    cases hxv with | lsl hxv =>
                    obtain ⟨hln, ad, rfl, had⟩ := hxv b n hb
                    obtain rfl := had (.inr rfl)
                    rw [Nat.zero_mul, Nat.sub_zero] at hxe
                    have hold2 : FlatRows w F (C.toList.take (len * j.size)) j.size old := by
                      refine ⟨?_, fun i row hr => ?_⟩
                      · rw [List.length_take, Array.length_toList, hCs, hlen, Nat.min_eq_left (Nat.mul_le_mul_right _ (by omega))]
                      · rw [← hold, List.getElem?_take] at hr
                        split at hr
                        · rename_i hi
                          obtain ⟨g1, g2⟩ := hCr i row hr
                          refine ⟨g1, fun k x v hx hv => g2 k x v hx ?_⟩
                          rw [List.getElem?_take] at hv
                          split at hv
                          · simpa using hv
                          · cases hv
                        · cases hr
                    have hone : ∀ u ∈ C.toList.take (len * j.size), u.oneCell' = true := by
                      intro u hu'
                      obtain ⟨k, hk, rfl⟩ := List.mem_iff_getElem.1 hu'
                      simp only [List.length_take, Array.length_toList] at hk
                      have hk' : k < len * j.size := by omega
                      have hdv : k / j.size < len := by rw [Nat.div_lt_iff_lt_mul hpos]; exact hk'
                      have hlt : k / j.size < rows.length := by omega
                      obtain ⟨g1, g2⟩ := hCr _ _ (List.getElem?_eq_getElem hlt)
                      have hm : k % j.size < rows[k / j.size].length := by rw [g1]; exact Nat.mod_lt _ hpos
                      refine (crep_cells (g2 (k % j.size) _ _ (List.getElem?_eq_getElem hm) ?_)).2
                      rw [Nat.div_add_mod', List.getElem_take]
                      simp
                    have hown : w.ownsRow 0 e j.size (.slice (some ⟨b, 0, none⟩) len n) len (C.toList.take (len * j.size)) := by
                      refine ⟨by rw [hold2.1, hlen], .inr ⟨b, n, C, rfl, Nat.zero_le _, hC, by omega, hmx, hCs, rfl⟩⟩
                    have main : ∃ v' w', (Builtin.append_ #[t, t] o.type #[a.eval xo, a.eval yo]).run P w = .ok v' w' ∧ w'.ownsRow 0 e j.size v' (len + new.length) (C.toList.take (len * j.size) ++ l2) ∧ w.grownBy w' (some b) ∧ (v' ≠ .slice none 0 0) ∧ (v'.ownBlock = some b ∨ v'.ownBlock = some w.heap.size) := by
                      cases A2 with
                      | none =>
                        obtain ⟨rfl, rfl⟩ := hs2.nil rfl
                        have hl2 : l2 = [] := List.eq_nil_of_length_eq_zero (by simpa using hs2.flat.1)
                        subst hl2
                        refine ⟨_, w, ?_, by simpa using hown, World.grownBy.refl w _, by simp, .inl rfl⟩
                        rw [hxe, hs2.val]
                        exact run_append_nothing w t t o.type e info hu h1 (some ⟨b, 0, none⟩) len n (by omega) _ (by rw [h2]; exact Src.ofNil w hu 0)
                      | some ad2 =>
                        obtain ⟨v', w', g1, g2, g3, g4, g5⟩ := run_append_own_at (P := P) w 0 t o.type e info zv j.size info.bytes hu h1 h4 h2 rfl (by rw [h5]; exact zero_len hT hj) hpos _ len _ hown ad2 new.length c2 l2 hs2.flat.1 (hs2.cell ad2 rfl) hs2.one (by simp only [maxLen]; omega) (by rw [← hlen]; exact hbN) (Nat.zero_le _)
                        refine ⟨v', w', by rw [hxe, hs2.val]; exact g1, g2, g3, fun e0 => ?_, g5⟩
                        have := (g4.1 e0).1
                        cases this
                    obtain ⟨v', w', g1, g2, g3, g4, g5⟩ := main
                    rcases g2.2 with ⟨g6, _⟩ | ⟨g, cap, cur, rfl, _, g7, g8, g9, g10, g11⟩
                    · exact absurd g6 g4
                    · have hgb : g = b ∨ w.heap.size ≤ g := by
                        rcases g5 with g5 | g5 <;> simp [Value.ownBlock] at g5
                        · exact .inl g5
                        · exact .inr (by omega)
                      have hlt : g < w'.heap.size := by
                        rcases Nat.lt_or_ge g w'.heap.size with q | q
                        · exact q
                        · rw [Array.getElem?_eq_none q] at g7; cases g7
                      have hF : ∀ k, F k → w'.heap[k]? = w.heap[k]? := fun k hk => g3.block k (h.flt k hk) (fun e0 => h.apart _ b n hb (by cases e0; exact hk))
                      have hflat := (hold2.append hs2.flat).keep hF
                      have hll : (C.toList.take (len * j.size) ++ l2).length = (len + new.length) * j.size := g2.1
                      refine Does.mk (hrun _ _ g1) ⟨F, _, (h.app (b' := g) (n' := cap) hb ho0 (fun k hk hne => g3.block k hk (fun e0 => hne (by cases e0; rfl))) g3.size g3.os g3.tape g3.output hgb hlt (o' := .arr e j.size (old ++ new)) ?_ (by trivial) hl0).more nid, .lsl fun b' n' hb' => ?_, by simp only [AV.lo]; exact .inl (h.wfO _ _ ho0).1⟩
                      · refine ⟨cur, g7, g10, by rw [List.length_append, hlen]; exact g8, g9, fun i row hr => flat_arr (n := 0) hflat (by rw [hll]; exact g11) i row hr⟩
                      · simp only [if_true, Option.some.injEq, Prod.mk.injEq] at hb'
                        obtain ⟨rfl, rfl⟩ := hb'
                        exact ⟨by omega, _, by rw [Nat.sub_zero, hlen], fun _ => by rw [Nat.zero_mul]⟩
                  · cases hold
                · cases he
              · cases he
            · cases he
          · rename_i nl full sz rs hx
            split at he
            · rename_i hnf
              split at he
              · rename_i hm0
                simp only [Option.some.injEq, Prod.mk.injEq] at he
                obtain ⟨rfl, rfl⟩ := he
                have hn0 : new = [] := List.eq_nil_of_length_eq_zero hm0
                subst hn0
                have hl2 : l2 = [] := List.eq_nil_of_length_eq_zero (by simpa using hs2.flat.1)
                subst hl2
                rw [hx] at hold
                have hxv : ∃ A n cc, a.eval xo = .slice A n cc ∧ n ≤ cc := by
                  rw [hx] at hxr
                  generalize a.eval xo = xv at hxr
                  cases hxr with | c hxr =>
                  cases hxr with
                  | nil => exact ⟨none, 0, 0, rfl, Nat.le_refl _⟩
                  | sl f g1 g2 => exact ⟨_, _, _, rfl, by omega⟩
                obtain ⟨A, n, cc, hxe, hle⟩ := hxv
                refine Does.mk (v := a.eval xo) (w' := w) (hrun _ _ ?_) (after_no h hxr (eval_lo h xo))
                rw [hxe]
                exact run_append_nothing w t t o.type e info hu h1 A n cc hle _ (by rw [h2]; exact hsrc2)
              · rename_i hm0
                split at he
                · rename_i hallo
                  simp only [Option.some.injEq, Prod.mk.injEq] at he
                  obtain ⟨rfl, rfl⟩ := he
                  obtain ⟨A1, c1, l1, hs1, hcap⟩ := rows_src h hpos hxr hold hallo
                  have hcf : c1 = old.length := by
                    exact hcap _ _ _ _ hx hnf
                  have hsrc1 := hs1.src (P := P) hu
                  have hgrow := run_append_grow_src (P := P) w t t o.type e info zv hu h1 h4 A1 old.length c1 l1 (by
                    have := hsrc1.cellsD
                    rw [hs1.val] at this
                    rw [h2]; exact this) (a.eval yo) new.length l2 (by rw [h2]; exact hsrc2) (by omega) (by omega) (growslice_fits (by omega) hbN)
                  have hflat := hs1.flat.append hs2.flat
                  have hzs : zv.cells.size = j.size := by rw [h5]; exact zero_len hT hj
                  have hcl := grownCap_ge w (old.length + new.length) c1 e
                  refine Does.mk (hrun _ _ (by rw [hs1.val]; exact hgrow)) ?_
                  refine after_arr (w := w.drew) h.drew hn (n := grownCap w (old.length + new.length) c1 e) ?_ (by simp) hcl (grownCap_le_maxLen w _ _ _ (by simp only [maxLen]; omega)) fun i row hr => flat_arr (n := 0) (hflat.keep (w' := w.drew) (fun _ _ => rfl)) ?_ i row hr
                  · simp only [Array.size_append, List.size_toArray, size_zeroCells, hzs, hflat.1, List.length_append, ← Nat.add_mul]
                    congr 1
                    omega
                  · rw [Array.toList_append, List.take_left' rfl]
                · cases he
            · cases he
          · cases he
        · cases he
      · cases he
    · cases he
  · cases he

end
end Go.Proofs.Ytnnpjblpiecfdaa.Fw
