/- Reading memory, and the quiet operations one by one. -/
import Derived.Test.YtnnpjblpiecfdaaFwC
namespace Go.Proofs.Ytnnpjblpiecfdaa.Fw
open Go.RowKit

section
variable {P : Program} {T : Tab} {E : Entry} {s : AState} {a : Act} {w : World} {F : Nat → Prop} {B : Beta} {U : Nat → Prop}

theorem add_plain (b off j : Nat) : (⟨b, off, none⟩ : Addr).add j = ⟨b, off + j, none⟩ := by
  unfold Addr.add
  split
  · rename_i h; subst h; rfl
  · rfl

theorem add_add' (a : Addr) (i j : Nat) : (a.add i).add j = a.add (i + j) := by
  unfold Addr.add
  by_cases hi : i = 0 <;> by_cases hj : j = 0 <;> simp [hi, hj, Nat.add_assoc]

theorem cell_blk {b : Nat} {C : Array Value} {t : TypeId} {fr : Nat × Nat} (h : w.heap[b]? = some (.cells C t fr)) (k : Nat) : w.cell? ⟨b, k, none⟩ = C[k]? := by
  simp [World.cell?, h]

theorem exactly_some {n : Nat} {l cs : List AV} (h : exactly n l = some cs) : cs = l ∧ l.length = n := by
  unfold exactly at h
  split at h
  · exact ⟨(Option.some.inj h).symm, ‹_›⟩
  · cases h

structure ReadOk (U : Nat → Prop) (w : World) (F : Nat → Prop) (B : Beta) (v : Value) (n : Nat) (cs : List AV) (ad : Addr) (vs : List Value) : Prop where
  ptr : v = .pointer (some ad)
  len : vs.length = n
  clen : cs.length = n
  cell : ∀ (j : Nat) u, vs[j]? = some u → w.cell? (ad.add j) = some u
  rep : ∀ (j : Nat) x u, cs[j]? = some x → vs[j]? = some u → ARep w F B u x
  lo : ∀ x ∈ cs, x.lo U

theorem readAt_sound (h : RelB E s a w F B U) {n : Nat} {x : AV} {cs : List AV} {v : Value} (he : readAt s n x = some cs) (hv : ARep w F B v x) (hlo : x.lo U) : ∃ ad vs, ReadOk U w F B v n cs ad vs := by
  cases x with
  | ref l off =>
    simp only [readAt] at he
    split at he
    · rename_i t cells ho
      obtain ⟨rfl, hl⟩ := exactly_some he
      obtain ⟨b, m, hb, C, hC, hCs, hCr⟩ := obj_B h ho
      cases hv with | ref hv =>
      have hlen : ((C.toList.drop off).take n).length = n := by
        simp only [List.length_take, List.length_drop, Array.length_toList] at hl ⊢
        omega
      refine ⟨⟨b, off, none⟩, (C.toList.drop off).take n, hv b m hb, hlen, hl, ?_, ?_, ?_⟩
      · intro j u hu
        rw [add_plain, cell_blk hC]
        rw [List.getElem?_take] at hu
        split at hu
        · rw [List.getElem?_drop] at hu
          simpa using hu
        · cases hu
      · intro j x u hx hu
        rw [List.getElem?_take] at hu hx
        split at hu
        · rename_i hj
          rw [if_pos hj] at hx
          rw [List.getElem?_drop] at hu hx
          exact hCr (off + j) x u hx (by simpa using hu)
        · cases hu
      · intro x hx
        exact (h.wfO l _ ho).2 x (List.mem_of_mem_drop (List.mem_of_mem_take hx))
    · cases he
  | eref l sz i off =>
    simp only [readAt] at he
    split at he
    · rename_i t sz' rows ho
      split at he
      · rename_i hsz
        subst hsz
        split at he
        · rename_i row hrow
          obtain ⟨rfl, hl⟩ := exactly_some he
          obtain ⟨b, m, hb, C, hC, hCs, hrl, _, hCr⟩ := obj_B h ho
          cases hv with | eref hv =>
          obtain ⟨hrs, hcell⟩ := hCr i row hrow
          have hi : i < rows.length := (List.getElem?_eq_some_iff.1 hrow).1
          have hfit : i * sz + sz ≤ C.size := by
            rw [hCs]
            have : (i + 1) * sz ≤ m * sz := Nat.mul_le_mul_right _ (by omega)
            rw [Nat.add_mul] at this
            omega
          have hl' := hl
          simp only [List.length_map, List.length_take, List.length_drop] at hl'
          have hlen : ((C.toList.drop (i * sz + off)).take n).length = n := by
            simp only [List.length_take, List.length_drop, Array.length_toList]
            omega
          refine ⟨⟨b, i * sz + off, none⟩, (C.toList.drop (i * sz + off)).take n, hv b m hb, hlen, hl, ?_, ?_, ?_⟩
          · intro j u hu
            rw [add_plain, cell_blk hC]
            rw [List.getElem?_take] at hu
            split at hu
            · rw [List.getElem?_drop] at hu
              simpa using hu
            · cases hu
          · intro j x u hx hu
            simp only [List.getElem?_map, Option.map_eq_some_iff] at hx
            obtain ⟨y, hy, rfl⟩ := hx
            rw [List.getElem?_take] at hu hy
            split at hu
            · rename_i hj
              rw [if_pos hj] at hy
              rw [List.getElem?_drop] at hu hy
              refine .c (hcell (off + j) y u hy ?_)
              rw [← Nat.add_assoc]
              simpa using hu
            · cases hu
          · intro x hx
            obtain ⟨y, _, rfl⟩ := List.mem_map.1 hx
            simp only [AV.lo]
        · cases he
      · cases he
    · rename_i t sz' rows ho
      split at he
      · rename_i hsz
        subst hsz
        split at he
        · rename_i row hrow
          obtain ⟨rfl, hl⟩ := exactly_some he
          obtain ⟨b, m, hb, C, hC, hCs, hrl, _, hCr⟩ := obj_B h ho
          cases hv with | eref hv =>
          obtain ⟨hrs, hcell⟩ := hCr i row hrow
          have hi : i < rows.length := (List.getElem?_eq_some_iff.1 hrow).1
          have hfit : i * sz + sz ≤ C.size := by
            rw [hCs]
            have : (i + 1) * sz ≤ m * sz := Nat.mul_le_mul_right _ (by omega)
            rw [Nat.add_mul] at this
            omega
          have hl' := hl
          simp only [List.length_take, List.length_drop] at hl'
          have hlen : ((C.toList.drop (i * sz + off)).take n).length = n := by
            simp only [List.length_take, List.length_drop, Array.length_toList]
            omega
          refine ⟨⟨b, i * sz + off, none⟩, (C.toList.drop (i * sz + off)).take n, hv b m hb, hlen, hl, ?_, ?_, ?_⟩
          · intro j u hu
            rw [add_plain, cell_blk hC]
            rw [List.getElem?_take] at hu
            split at hu
            · rw [List.getElem?_drop] at hu
              simpa using hu
            · cases hu
          · intro j x u hx hu
            rw [List.getElem?_take] at hu hx
            split at hu
            · rename_i hj
              rw [if_pos hj] at hx
              rw [List.getElem?_drop] at hu hx
              refine hcell (off + j) x u hx ?_
              rw [← Nat.add_assoc]
              simpa using hu
            · cases hu
          · intro x hx
            exact (h.wfO l _ ho).2 row (List.mem_of_getElem? hrow) x (List.mem_of_mem_drop (List.mem_of_mem_take hx))
        · cases he
      · cases he
    · cases he
  | c y =>
    cases y with
    | rp cells =>
      simp only [readAt] at he
      obtain ⟨rfl, hl⟩ := exactly_some he
      cases hv with | c hv =>
      cases hv with | @rp _ ad f h1 h2 =>
      simp only [List.length_map, List.length_take] at hl
      refine ⟨ad, (List.range n).map f, rfl, by simp, by simp; omega, ?_, ?_, ?_⟩
      · intro j u hu
        simp only [List.getElem?_map, Option.map_eq_some_iff] at hu
        obtain ⟨k, hk, rfl⟩ := hu
        obtain ⟨hk1, hk2⟩ := List.getElem?_eq_some_iff.1 hk
        simp only [List.getElem_range, List.length_range] at hk1 hk2
        subst hk2
        have hj : j < cells.length := by omega
        exact (h1 j _ (List.getElem?_eq_getElem hj)).2
      · intro j x u hx hu
        simp only [List.getElem?_map, Option.map_eq_some_iff] at hu hx
        obtain ⟨k, hk, rfl⟩ := hu
        obtain ⟨y, hy, rfl⟩ := hx
        obtain ⟨hk1, hk2⟩ := List.getElem?_eq_some_iff.1 hk
        simp only [List.getElem_range] at hk2
        subst hk2
        rw [List.getElem?_take] at hy
        split at hy
        · exact .c (h2 j y hy)
        · cases hy
      · intro x hx
        obtain ⟨y, _, rfl⟩ := List.mem_map.1 hx
        simp only [AV.lo]
    | _ => simp [readAt] at he
  | _ => simp [readAt] at he

theorem run_loadVar_of {t : TypeId} {i : TI} (hT : Tab.ok P T = true) (ht : T.get t = some i) {v : Value} {cs : List AV} {ad : Addr} {vs : List Value} (hr : ReadOk U w F B v i.size cs ad vs) :
    (i.d.isAgg = true → (loadVar t ad).run P w = .ok (.agg vs.toArray) w) ∧ (i.d.isAgg = false → ∀ u, vs = [u] → (loadVar t ad).run P w = .ok u w) := by
  constructor
  · intro hag
    simp only [loadVar, Sem.run_bind, get_isAgg hT ht, Result.andThen_ok, hag, if_true, get_size hT ht]
    rw [← hr.len, run_loadCells_list (P := P) w ad vs hr.cell]
    rfl
  · intro hag u hu
    subst hu
    have := hr.cell 0 u rfl
    rw [show ad.add 0 = ad from by simp [Addr.add]] at this
    simp [loadVar, Sem.run_bind, get_isAgg hT ht, hag, this]

/-- A quiet operation: what Go's operation yields in this very world. -/
def Yields (P : Program) (U : Nat → Prop) (w : World) (F : Nat → Prop) (B : Beta) (m : Sem Value) (x : AV) : Prop := ∃ v, m.run P w = .ok v w ∧ ARep w F B v x ∧ x.lo U

theorem load_sound (hT : Tab.ok P T = true) (h : RelB E s a w F B U) {t : TypeId} {i : TI} (ht : T.get t = some i) {p x : AV} {cs : List AV} {v : Value} (he : readAt s i.size p = some cs) (hv : ARep w F B v p) (hlo : p.lo U)
    (hx : (if i.d.isAgg then some (.agg cs) else (match cs with | [x] => some x | _ => none)) = some x) : Yields P U w F B (Instr.loadAt t v) x := by
  obtain ⟨ad, vs, hr⟩ := readAt_sound h he hv hlo
  have hptr := hr.ptr
  subst hptr
  obtain ⟨h1, h2⟩ := run_loadVar_of hT ht hr
  cases hag : i.d.isAgg with
  | true =>
    rw [hag] at hx
    simp only [if_true, Option.some.injEq] at hx
    subst hx
    refine ⟨.agg vs.toArray, ?_, .agg (by simp [hr.len, hr.clen]) (fun k y u hy hu => hr.rep k y u hy (by simpa using hu)), ?_⟩
    · simp [Instr.loadAt, Instr.sureAddr, h1 hag]
    · simp only [AV.lo]; exact hr.lo
  | false =>
    rw [hag] at hx
    simp only [Bool.false_eq_true, if_false] at hx
    split at hx
    · rename_i y
      have hy := Option.some.inj hx
      subst hy
      have hl := hr.len
      have hc := hr.clen
      simp only [List.length_cons, List.length_nil] at hc
      rw [← hc] at hl
      obtain ⟨u, rfl⟩ : ∃ u, vs = [u] := by
        match vs, hl with
        | [u], _ => exact ⟨u, rfl⟩
      exact ⟨u, by simp [Instr.loadAt, Instr.sureAddr, h2 hag u rfl], hr.rep 0 _ u rfl rfl, hr.lo _ (by simp)⟩
    · cases hx

end
end Go.Proofs.Ytnnpjblpiecfdaa.Fw
