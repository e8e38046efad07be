/- An argument that reads as data is held by an abstract value of its shape. -/
import Derived.Test.YtnnpjblpiecfdaaFwR
import Derived.Deep.Slices
import Derived.Deep.Fields
import Derived.ChangeSame
import Derived.WideShapes
import Derived.OpenShut
import Derived.Carry
import Derived.SizedLaws
import Derived.ProofKit
namespace Go.Proofs.Ytnnpjblpiecfdaa.Fw
open Go.RowKit Go.ChangeShapes Go.WideShapes Go.Deep
set_option linter.unusedVariables false
set_option linter.unusedSimpArgs false

inductive CSh where
  | int (k : IntKind)
  | bool
  | str
  | sl (row : List CSh)

mutual
def Okc : CSh → CV → Prop
  | .int k, x => ∃ n, x = .v (.int k n) ∧ (Lit.int k n).wf = true
  | .bool, x => ∃ b, x = .v (.bool b)
  | .str, x => ∃ s : ByteArray, x = .v (.string s) ∧ s.size ≤ maxLen
  | .sl row, x => ∃ nl rows, x = .sl nl false row.length rows ∧ rows.length ≤ maxLen ∧ (nl = true → rows = []) ∧ ∀ r ∈ rows, Okl row r
def Okl : List CSh → List CV → Prop
  | [], [] => True
  | c :: cs, x :: xs => Okc c x ∧ Okl cs xs
  | _, _ => False
end

theorem Okl.len : ∀ {cs : List CSh} {xs : List CV}, Okl cs xs → xs.length = cs.length
  | [], [], _ => rfl
  | c :: cs, x :: xs, h => by simp only [Okl] at h; simp [Okl.len h.2]
  | [], _ :: _, h => by simp [Okl] at h
  | _ :: _, [], h => by simp [Okl] at h

theorem Okl.append : ∀ {cs ds : List CSh} {xs ys : List CV}, Okl cs xs → Okl ds ys → Okl (cs ++ ds) (xs ++ ys)
  | [], ds, [], ys, _, h => h
  | c :: cs, ds, x :: xs, ys, h, h' => by
    simp only [Okl] at h
    simp only [List.cons_append, Okl]
    exact ⟨h.1, Okl.append h.2 h'⟩
  | [], _, _ :: _, _, h, _ => by simp [Okl] at h
  | _ :: _, _, [], _, h, _ => by simp [Okl] at h

def flatFs (f : TypeId → Option (List CSh)) : List (TypeId × Nat) → Nat → Option (List CSh)
  | [], _ => some []
  | (t, off) :: fs, o => if off = o then (match f t with
    | some r => match flatFs f fs (o + r.length) with | some rs => some (r ++ rs) | none => none
    | none => none) else none

def flatN (T : Tab) : Nat → TypeId → Option (List CSh)
  | 0, _ => none
  | n + 1, t => match T.get t with
    | some i => match i.d with
      | .int k => if i.size = 1 then some [.int k] else none
      | .bool => if i.size = 1 then some [.bool] else none
      | .string => if i.size = 1 then some [.str] else none
      | .slice e => match flatN T n e with
        | some r => if i.size = 1 ∧ 0 < r.length then some [.sl r] else none
        | none => none
      | .struct fs => match flatFs (flatN T n) fs 0 with
        | some r => if r.length = i.size then some r else none
        | none => none
      | _ => none
    | none => none

section
variable {H : Type} {enc : TypeId × Value → H} {P : Program} {T : Tab} {w : World} {base : Nat} {spare : Nat → Bool} {held : Bool} {F : Nat → Prop}

theorem tab_cells {t : TypeId} {i : TI} (h : TabAt P t i) : P.cellsOf t = i.size := by
  obtain ⟨info, z, h1, h2, _⟩ := h.info
  simp [Program.cellsOf, h1, h2]

theorem flat_len (hT : Tab.ok P T = true) : ∀ (n : Nat) (t : TypeId) (L : List CSh), flatN T n t = some L → P.cellsOf t = L.length
  | 0, _, _, h => by simp [flatN] at h
  | n + 1, t, L, h => by
    simp only [flatN] at h
    split at h
    · rename_i i hi
      rw [tab_cells (Tab.get_spec hT hi)]
      split at h
      · split at h
        · cases h; assumption
        · cases h
      · split at h
        · cases h; assumption
        · cases h
      · split at h
        · cases h; assumption
        · cases h
      · split at h
        · split at h
          · cases h; rename_i hh; exact hh.1
          · cases h
        · cases h
      · split at h
        · split at h
          · cases h; symm; assumption
          · cases h
        · cases h
      · cases h
    · cases h

theorem fits_struct {d : TypeDesc} {fs : List (TypeId × Nat)} (h : TD.fits (.struct fs) d = true) : ∃ fields : Array Field, d = .struct fields ∧ fields.toList.map (fun f => (f.type, f.offset)) = fs := by
  cases d <;> simp [TD.fits] at h
  exact ⟨_, rfl, h⟩
theorem fits_slice {d : TypeDesc} {e : TypeId} (h : TD.fits (.slice e) d = true) : d = .slice e := by
  cases d <;> simp [TD.fits] at h
  rw [h]
theorem fits_int {d : TypeDesc} {k : IntKind} (h : TD.fits (.int k) d = true) : d = .int k := by
  cases d <;> simp [TD.fits] at h
  rw [h]
theorem fits_bool {d : TypeDesc} (h : TD.fits .bool d = true) : d = .bool := by
  cases d <;> simp [TD.fits] at h
  rfl
theorem fits_string {d : TypeDesc} (h : TD.fits .string d = true) : d = .string := by
  cases d <;> simp [TD.fits] at h
  rfl

/-- The cells are held by closed data of the shapes. -/
def Held (w : World) (F : Nat → Prop) (cs : List Value) (L : List CSh) : Prop :=
  ∃ ys : List CV, cs.length = ys.length ∧ (∀ (i : Nat) x v, ys[i]? = some x → cs[i]? = some v → CRep w F v x) ∧ Okl L ys

theorem Held.one {v : Value} {y : CV} {c : CSh} (h : CRep w F v y) (ho : Okc c y) : Held w F [v] [c] := by
  refine ⟨[y], rfl, fun i x u hx hu => ?_, by simp only [Okl]; exact ⟨ho, trivial⟩⟩
  cases i with
  | zero => cases hx; cases hu; exact h
  | succ i => simp at hx

theorem reads (hT : Tab.ok P T = true) : ∀ (n : Nat) (t : TypeId) (L : List CSh), flatN T n t = some L → ∀ (fuel : Nat) (cs : List Value) (x : DataW H × List MemPlace), DataW.trod enc P w base spare held fuel t cs = some x → (∀ p ∈ x.2, F p.block) → Held w F cs L
  | 0, _, _, h => by simp [flatN] at h
  | n + 1, t, L, h => by
    intro fuel cs x hx hF
    have ih := reads hT n
    simp only [flatN] at h
    split at h
    · rename_i i hi
      have hat := Tab.get_spec hT hi
      obtain ⟨d, hd, hfit⟩ := hat.desc
      split at h
      · rename_i k hk
        rw [hk] at hfit
        rw [fits_int hfit] at hd
        split at h
        · cases h
          obtain ⟨m, rfl, _, hwf⟩ := DataW.trod_int hd hx
          exact Held.one (.v rfl) (by simp only [Okc]; exact ⟨m, rfl, hwf⟩)
        · cases h
      · rename_i hk
        rw [hk] at hfit
        rw [fits_bool hfit] at hd
        split at h
        · cases h
          obtain ⟨b, rfl, _⟩ := DataW.trod_bool hd hx
          exact Held.one (.v rfl) (by simp only [Okc]; exact ⟨b, rfl⟩)
        · cases h
      · rename_i hk
        rw [hk] at hfit
        rw [fits_string hfit] at hd
        split at h
        · cases h
          obtain ⟨s, rfl, _, hs⟩ := DataW.trod_string hd hx
          exact Held.one (.v rfl) (by simp only [Okc]; exact ⟨s, rfl, hs⟩)
        · cases h
      · rename_i e hk
        rw [hk] at hfit
        rw [fits_slice hfit] at hd
        split at h
        · rename_i r hr
          split at h
          · rename_i hc
            cases h
            have hcells := flat_len hT n e r hr
            rcases open_slice hd hx with ⟨rfl, _⟩ | ⟨a, len, cap, m, nn, D, Pl, rfl, _, hl, hm, hmm, rfl, hel⟩
            · exact Held.one .nil (by simp only [Okc]; exact ⟨true, [], rfl, by simp, fun _ => rfl, by simp⟩)
            · rw [hcells] at hel hF
              have hlm : len ≤ m := by rw [hmm]; split <;> omega
              have hrow : ∀ i : Nat, ∃ ys : List CV, i < m → (∃ cs', w.cells? base (a.add (i * r.length)) r.length = some cs' ∧ cs'.length = ys.length ∧ (∀ (j : Nat) x v, ys[j]? = some x → cs'[j]? = some v → CRep w F v x)) ∧ Okl r ys := by
                intro i
                by_cases him : i < m
                · obtain ⟨cs', h1, h2⟩ := hel i him
                  obtain ⟨ys, g1, g2, g3⟩ := ih e r hr nn cs' _ h2 (fun p hp => hF p (List.mem_append_right _ (List.mem_flatMap.2 ⟨i, List.mem_range.2 him, hp⟩)))
                  exact ⟨ys, fun _ => ⟨⟨cs', h1, g1, g2⟩, g3⟩⟩
                · exact ⟨[], fun h => absurd h him⟩
              have ⟨Y, hY⟩ : ∃ Y : Nat → List CV, ∀ i, i < m → (∃ cs', w.cells? base (a.add (i * r.length)) r.length = some cs' ∧ cs'.length = (Y i).length ∧ (∀ (j : Nat) x v, (Y i)[j]? = some x → cs'[j]? = some v → CRep w F v x)) ∧ Okl r (Y i) := ⟨fun i => Classical.choose (hrow i), fun i => Classical.choose_spec (hrow i)⟩
              have hat' : ∀ i row, ((List.range len).map Y)[i]? = some row → i < m ∧ row = Y i := by
                intro i row hi'
                simp only [List.getElem?_map, Option.map_eq_some_iff] at hi'
                obtain ⟨j, hj, rfl⟩ := hi'
                obtain ⟨hj1, hj2⟩ := List.getElem?_eq_some_iff.1 hj
                simp only [List.length_range] at hj1
                rw [List.getElem_range] at hj2
                subst hj2
                exact ⟨by omega, rfl⟩
              refine Held.one (y := .sl false false r.length ((List.range len).map Y)) ?_ ?_
              · refine .sl (fun i j => (w.cell? (a.add (i * r.length + j))).getD undef) (by simp) (by simpa using hl) (by simp) ?_ ?_
                · intro i row hi' j y hy
                  obtain ⟨him, rfl⟩ := hat' i row hi'
                  obtain ⟨⟨cs', h1, h2, h3⟩, h4⟩ := hY i him
                  obtain ⟨_, hcl, hcat⟩ := World.cells?_some h1
                  have hjl : j < r.length := by rw [← hcl, h2]; exact (List.getElem?_eq_some_iff.1 hy).1
                  refine ⟨hF (.cell a.block (a.off + 0)) (List.mem_append_left _ (List.mem_map.2 ⟨0, List.mem_range.2 ?_, rfl⟩)), ?_⟩
                  · exact Nat.mul_pos (by omega) hc.2
                  · have := hcat j hjl
                    rw [add_add] at this
                    rw [this, List.getElem?_eq_getElem (by omega)]
                    rfl
                · intro i row hi' j y hy
                  obtain ⟨him, rfl⟩ := hat' i row hi'
                  obtain ⟨⟨cs', h1, h2, h3⟩, h4⟩ := hY i him
                  obtain ⟨_, hcl, hcat⟩ := World.cells?_some h1
                  have hjl : j < r.length := by rw [← hcl, h2]; exact (List.getElem?_eq_some_iff.1 hy).1
                  have := hcat j hjl
                  rw [add_add] at this
                  rw [this, List.getElem?_eq_getElem (by omega)]
                  exact h3 j y _ hy (List.getElem?_eq_getElem (by omega))
              · simp only [Okc]
                refine ⟨false, _, rfl, by simp; omega, (by simp), ?_⟩
                intro r' hr'
                obtain ⟨i, hi', rfl⟩ := List.mem_map.1 hr'
                exact (hY i (by have := List.mem_range.1 hi'; omega)).2
          · cases h
        · cases h
      · rename_i fs hk
        rw [hk] at hfit
        obtain ⟨fields, rfl, hfs⟩ := fits_struct hfit
        split at h
        · rename_i r hr
          split at h
          · rename_i hlen
            cases h
            obtain ⟨xs, nn, _, rfl, hcl, hxl, hget⟩ := DataW.trod_struct hd hx
            rw [tab_cells hat, ← hlen] at hcl
            have key : ∀ (fl : List Field) (o : Nat) (L : List CSh), flatFs (flatN T n) (fl.map fun f => (f.type, f.offset)) o = some L →
                (∀ f ∈ fl, ∃ y, DataW.trod enc P w base spare held nn f.type ((cs.drop f.offset).take (P.cellsOf f.type)) = some y ∧ ∀ p ∈ y.2, F p.block) → o + L.length ≤ cs.length →
                ∃ ys : List CV, (∀ (i : Nat) x v, ys[i]? = some x → cs[o + i]? = some v → CRep w F v x) ∧ Okl L ys := by
              intro fl
              induction fl with
              | nil =>
                intro o L hL _ _
                simp only [List.map_nil, flatFs, Option.some.injEq] at hL
                subst hL
                exact ⟨[], by simp, by simp [Okl]⟩
              | cons f fl ihf =>
                intro o L hL hall hle
                simp only [List.map_cons, flatFs] at hL
                split at hL
                · rename_i ho
                  split at hL
                  · rename_i r1 hr1
                    split at hL
                    · rename_i rs hrs
                      cases hL
                      rw [List.length_append] at hle
                      obtain ⟨y, hy, hyF⟩ := hall f (by simp)
                      obtain ⟨ys, g1, g2, g3⟩ := ih f.type r1 hr1 nn _ y hy hyF
                      obtain ⟨zs, k1, k2⟩ := ihf _ rs hrs (fun f' hf' => hall f' (by simp [hf'])) (by omega)
                      have hcf := flat_len hT n f.type r1 hr1
                      have hyl := Okl.len g3
                      refine ⟨ys ++ zs, fun i x v hx hv => ?_, g3.append k2⟩
                      by_cases hi' : i < ys.length
                      · rw [List.getElem?_append_left hi'] at hx
                        refine g2 i x v hx ?_
                        rw [List.getElem?_take, if_pos (by omega), List.getElem?_drop, ho]
                        exact hv
                      · rw [List.getElem?_append_right (by omega)] at hx
                        refine k1 (i - ys.length) x v hx ?_
                        rw [show o + r1.length + (i - ys.length) = o + i by omega]
                        exact hv
                    · cases hL
                  · cases hL
                · cases hL
            obtain ⟨ys, g1, g2⟩ := key fields.toList 0 L (by rw [hfs]; exact hr) (by
              intro f hf
              obtain ⟨j, hj1, hj2⟩ := List.mem_iff_getElem.1 hf
              have hj3 : fields[j]? = some f := by
                rw [Array.getElem?_eq_getElem (by simpa using hj1)]
                simpa using hj2
              have hg := hget j f hj3
              have hjx : j < xs.length := by rw [hxl]; simpa using hj1
              rw [List.getElem?_eq_getElem hjx] at hg
              exact ⟨_, hg, fun p hp => hF p (List.mem_flatMap.2 ⟨_, List.getElem_mem hjx, hp⟩)⟩) (by omega)
            refine ⟨ys, by rw [hcl, g2.len], fun i x v hx hv => g1 i x v hx (by rw [Nat.zero_add]; exact hv), g2⟩
          · cases h
        · cases h
      · cases h
    · cases h
end
end Go.Proofs.Ytnnpjblpiecfdaa.Fw
