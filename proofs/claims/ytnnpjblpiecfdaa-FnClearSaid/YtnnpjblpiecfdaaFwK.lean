/- Literals and made slices; append. -/
import Derived.Test.YtnnpjblpiecfdaaFwJ
import Derived.Deep.Upon
namespace Go.Proofs.Ytnnpjblpiecfdaa.Fw
open Go.RowKit
set_option linter.unusedVariables false
set_option linter.unusedSimpArgs false

section
variable {P : Program} {T : Tab} {E : Entry} {s : AState} {a : Act} {w : World} {F : Nat → Prop} {B : Beta} {U : Nat → Prop}

theorem buildSlice_run (w : World) (t e : TypeId) (len : Nat) (parts : Array (Nat × Value)) (cells : Array Value) (ie : TypeInfo) (z : Value) (hu : P.underlying t = some (.slice e)) (hie : P.info? e = some ie) (hz : ie.zero = some z) (hsmall : len * ie.size ≤ 16777216) (hpos : 0 < ie.size)
    (h : Instr.fill (fun i => some (i * ie.size, ie.size)) (madeCells z.cells (len * ie.size)) parts.toList = some cells) : (Instr.buildSlice t len parts).run P w = .ok (.slice (some ⟨w.heap.size, 0, none⟩) len len) (w.alloc (.cells cells e)) := by
  by_cases hl : len = 0
  · subst hl
    have h' : Instr.fill (fun i => some (i * ie.size, ie.size)) ((Array.range (0 * ie.size)).map (#[][· % (#[] : Array Value).size]!)) parts.toList = some cells := by
      rw [← h]
      congr 1
      simp [madeCells, Nat.zero_mul]
    simp only [Nat.zero_mul] at h'
    simp [Instr.buildSlice, run_underlying hu, sizeOf, typeInfo, zeroValue, hie, hz, newRow]
    simp at h'
    rw [h']
    simp
  · have hne : ¬ len * ie.size = 0 := by
      intro e
      rcases Nat.mul_eq_zero.1 e with h1 | h1 <;> omega
    exact run_buildSlice w t e len parts cells ie z hu hie hz (by omega) hne h

theorem made_zero {z : Array Value} {zs : List CV} {sz : Nat} (hz : z.size = sz) (hl : zs.length = sz) (h : ∀ (k : Nat) x v, zs[k]? = some x → z[k]? = some v → CRep w F v x) (hp : 0 < sz) (n k : Nat) (hk : k < n) (x : CV) (v : Value)
    (hx : zs[k % sz]? = some x) (hv : (madeCells z n)[k]? = some v) : CRep w F v x := by
  refine h (k % sz) x v hx ?_
  simp only [madeCells, Array.getElem?_map, Array.getElem?_range, hk, if_true, Option.map_some, Option.some.injEq] at hv
  rw [← hv, hz]
  have hlt : k % sz < z.size := by rw [hz]; exact Nat.mod_lt _ hp
  rw [Array.getElem?_eq_getElem hlt, getElem!_pos z _ hlt]

theorem buildSlice_sound (hT : Tab.ok P T = true) (h : RelB E s a w F B U) {nid : Nat} (hn : ¬ U nid) {o : Oper} {t e : TypeId} {len : Nat} {parts : Array (Nat × Operand)} {j : TI} {cells : List AV} {vs : List CV} (ho : o.op = .buildSlice t len parts)
    (hd : T.desc t = some (.slice e)) (hj : T.get e = some j) (hc : 0 < j.size ∧ len * j.size ≤ 16777216 ∧ j.zero.length = j.size) (hf : afill s (fun i => some (i * j.size, j.size)) (zeros len j.zero) (parts.toList.map fun p => (p.1, s.eval p.2)) = some cells)
    (hv : toCVs cells = some vs) : Does P o a w (After E (s.eff nid (.new (.arr e j.size (rowsOf j.size len vs)))) a (fun l => U l ∨ l = nid) (.lsl nid j.size 0 len)) := by
  obtain ⟨info, z, h1, h2, h3, h4, h5, h6⟩ := zero_cells (w := w) (F := F) hT hj
  obtain ⟨p1, p2, p3⟩ := parts_rep h parts
  obtain ⟨z1, z2⟩ := zeros_spec j.size j.zero hc.2.2 len
  obtain ⟨C, q1, q2, q3, _⟩ := fill_sound h (place' := fun i => some (i * j.size, j.size)) (fun i p hp => hp) _ _ _ _ (madeCells z.cells (len * j.size)) hf p1 p2 p3 (zeros_lo _ _) (by
    refine ⟨by rw [size_madeCells, z1], fun k x v hx hv => ?_⟩
    have hk : k < len * j.size := by rw [← z1]; exact (List.getElem?_eq_some_iff.1 hx).1
    rw [z2 k hk, Option.map_eq_some_iff] at hx
    obtain ⟨y, hy, rfl⟩ := hx
    exact .c (made_zero (h5.trans hc.2.2) hc.2.2 h6 hc.1 _ k hk y v hy hv))
  have hcl : vs.length = len * j.size := by
    have := toCVs_some hv
    rw [this, List.length_map] at q3
    rw [q3, z1]
  obtain ⟨r1, r2⟩ := rowsOf_spec j.size len vs hcl
  have hmul : len ≤ len * j.size := Nat.le_mul_of_pos_right _ hc.1
  refine Does.mk (v := .slice (some ⟨w.heap.size, 0, none⟩) len len) (w' := w.alloc (.cells C e)) ?_ (after_arr h hn (n := len) ?_ r1 (Nat.le_refl _) (by simp only [maxLen]; omega) fun i row hr => ⟨(r2 i row hr).1, fun k x v hx hv' => ?_⟩)
  · have := buildSlice_run (P := P) w t e len (parts.map fun p => (p.1, a.eval p.2)) C info z (desc_slice hT hd) h1 h4 (by rw [h2]; exact hc.2.1) (by rw [h2]; exact hc.1) (by rw [h2]; exact q1)
    simp only [execOp, ho]
    rw [Sem.run_bind]
    erw [this]
    rfl
  · rw [q2.1, toCVs_some hv, List.length_map, hcl]
  · have hk : k < j.size := by rw [← (r2 i row hr).1]; exact (List.getElem?_eq_some_iff.1 hx).1
    rw [(r2 i row hr).2 k hk] at hx
    have := q2.2 (i * j.size + k) (.c x) v (by rw [toCVs_some hv, List.getElem?_map, hx]; rfl) hv'
    cases this with | c this => exact this

theorem makeSlice_sound (hT : Tab.ok P T = true) (h : RelB E s a w F B U) {nid : Nat} (hn : ¬ U nid) {o : Oper} {t e : TypeId} {len cap : Operand} {j : TI} {kl kc : IntKind} {l c : Int} (ho : o.op = .makeSlice t len cap)
    (hd : T.desc t = some (.slice e)) (hj : T.get e = some j) (hl : s.eval len = .c (.v (.int kl l))) (hc : s.eval cap = .c (.v (.int kc c)))
    (hb : 0 < j.size ∧ j.zero.length = j.size ∧ 0 ≤ l ∧ l ≤ c ∧ (j.bytes : Int) * c ≤ 140737488355328 ∧ c ≤ 9223372036854775807) :
    Does P o a w (After E (s.eff nid (.new (.arr e j.size (List.replicate l.toNat j.zero)))) a (fun l => U l ∨ l = nid) (.lsl nid j.size 0 l.toNat)) := by
  obtain ⟨info, z, h1, h2, h3, h4, h5, h6⟩ := zero_cells (w := w) (F := F) hT hj
  have e1 := rep_v (hl ▸ eval_rep h len)
  have e2 := rep_v (hc ▸ eval_rep h cap)
  refine Does.mk (v := .slice (some ⟨w.heap.size, 0, none⟩) l.toNat c.toNat) (w' := w.alloc (.cells (madeCells z.cells (c.toNat * info.size)) e)) ?_
    (after_arr h hn (n := c.toNat) (by rw [size_madeCells, h2]) (by simp) (by omega) (by simp only [maxLen]; omega) fun i row hr => ?_)
  · simp only [execOp, ho, e1, e2]
    rw [Sem.run_bind, run_make w t e info z (desc_slice hT hd) h1 h4 kl kc l c hb.2.2.1 hb.2.2.2.1 (by rw [h3]; omega) hb.2.2.2.2.2]
    rfl
  · have hi : i < l.toNat := by simpa using (List.getElem?_eq_some_iff.1 hr).1
    have hrow : row = j.zero := by
      rw [List.getElem?_replicate, if_pos hi] at hr
      exact (Option.some.inj hr).symm
    subst hrow
    refine ⟨hb.2.1, fun k x v hx hv => ?_⟩
    have hk : k < j.size := by rw [← hb.2.1]; exact (List.getElem?_eq_some_iff.1 hx).1
    have hlt : i * j.size + k < c.toNat * info.size := by
      rw [h2]
      have : (i + 1) * j.size ≤ c.toNat * j.size := Nat.mul_le_mul_right _ (by omega)
      rw [Nat.add_mul] at this
      omega
    refine made_zero (sz := j.size) (h5.trans hb.2.1) hb.2.1 h6 hb.1 _ _ hlt x v ?_ hv
    rw [show (i * j.size + k) % j.size = k from by rw [Nat.add_comm, Nat.add_mul_mod_self_right, Nat.mod_eq_of_lt hk]]
    exact hx

end
end Go.Proofs.Ytnnpjblpiecfdaa.Fw
