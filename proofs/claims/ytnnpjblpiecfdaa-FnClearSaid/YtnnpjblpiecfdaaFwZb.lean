/- From a contract to the row. -/
import Derived.Test.YtnnpjblpiecfdaaFwZ
namespace Go.Proofs.Ytnnpjblpiecfdaa.Fw
open Go.RowKit Go.ChangeShapes Go.WideShapes Go.Deep
set_option linter.unusedVariables false
set_option linter.unusedSimpArgs false

def shapeOf (T : Tab) (t : TypeId) : Option (Bool × List CSh) :=
  match T.get t, flatN T 20 t with
  | some i, some L => some (i.d.isAgg, L)
  | _, _ => none

def OkArg : Bool × List CSh → AV → Prop
  | (true, L), x => ∃ ys : List CV, x = .agg (ys.map .c) ∧ Okl L ys
  | (false, [c]), x => ∃ y, x = .c y ∧ Okc c y
  | _, _ => False

def OkArgs : List (Bool × List CSh) → List AV → Prop
  | [], [] => True
  | s :: ss, x :: xs => OkArg s x ∧ OkArgs ss xs
  | _, _ => False

section
variable {H : Type} {enc : TypeId × Value → H} {P : Program} {T : Tab} {W : World} {base : Nat} {spare : Nat → Bool} {held : Bool}

theorem arg_reads (hT : Tab.ok P T = true) {t : TypeId} {sh : Bool × List CSh} (hs : shapeOf T t = some sh) {v : Value} {d : DataW H} {p : List MemPlace} (hv : Value.okWide P W .any base t v) (h : DataW.Trod enc P W 0 spare held t v d p) :
    ∃ x, ARep W (fun b => b < W.heap.size) noB v x ∧ OkArg sh x := by
  obtain ⟨fuel, h⟩ := h
  unfold shapeOf at hs
  split at hs
  · rename_i i L hi hL
    cases hs
    obtain ⟨ys, g1, g2, g3⟩ := reads (F := fun b => b < W.heap.size) hT 20 t L hL fuel _ _ h (fun p hp => DataW.trod_lt _ _ _ _ h p hp)
    have hat := Tab.get_spec hT hi
    obtain ⟨dd, hd, hfit⟩ := hat.desc
    have one : ∀ c, L = [c] → v.cells = #[v] → ∃ x, ARep W (fun b => b < W.heap.size) noB v x ∧ ∃ y, x = .c y ∧ Okc c y := by
      intro c hc hcell
      subst hc
      rw [hcell] at g1 g2
      match ys, g3 with
      | [y], g3 =>
        simp only [Okl] at g3
        exact ⟨.c y, .c (g2 0 y v rfl rfl), y, rfl, g3.1⟩
      | [], g3 => simp [Okl] at g3
      | _ :: _ :: _, g3 => simp [Okl] at g3
    simp only [flatN, hi] at hL
    split at hL
    · rename_i k hk
      rw [hk] at hfit
      rw [fits_int hfit] at hd
      split at hL
      · cases hL
        obtain ⟨m, rfl⟩ : ∃ m, v = .int k m := by
          simp only [Value.okWide, hd, Cell.okWide] at hv
          cases v <;> simp_all [Cell.ok]
        rw [hk]
        exact one _ rfl rfl
      · cases hL
    · rename_i hk
      rw [hk] at hfit
      rw [fits_bool hfit] at hd
      split at hL
      · cases hL
        obtain ⟨m, rfl⟩ : ∃ m, v = .bool m := by
          simp only [Value.okWide, hd, Cell.okWide] at hv
          cases v <;> simp_all [Cell.ok]
        rw [hk]
        exact one _ rfl rfl
      · cases hL
    · rename_i hk
      rw [hk] at hfit
      rw [fits_string hfit] at hd
      split at hL
      · cases hL
        obtain ⟨m, rfl⟩ := okWide_string hd hv
        rw [hk]
        exact one _ rfl rfl
      · cases hL
    · rename_i e hk
      rw [hk] at hfit
      rw [fits_slice hfit] at hd
      split at hL
      · split at hL
        · cases hL
          obtain ⟨a, len, cap, rfl⟩ := okWide_slice hd hv
          rw [hk]
          exact one _ rfl rfl
        · cases hL
      · cases hL
    · rename_i fs hk
      rw [hk] at hfit
      obtain ⟨fields, rfl, hfs⟩ := fits_struct hfit
      split at hL
      · split at hL
        · cases hL
          obtain ⟨cs, rfl, hsz⟩ := okWide_struct hd hv
          rw [hk]
          refine ⟨.agg (ys.map .c), .agg ?_ ?_, ys, rfl, g3⟩
          · have : cs.toList.length = ys.length := g1
            simpa using this
          · intro i x u hx hu
            simp only [List.getElem?_map, Option.map_eq_some_iff] at hx
            obtain ⟨y, hy, rfl⟩ := hx
            exact .c (g2 i y u hy (by show cs.toList[i]? = some u; rw [Array.getElem?_toList]; exact hu))
        · cases hL
      · cases hL
    · cases hL
  · cases hs

theorem args_read (hT : Tab.ok P T = true) : ∀ {ts : List TypeId} {ss : List (Bool × List CSh)} {vs : List Value} {ds : List (DataW H)} {p : List MemPlace}, ts.mapM (shapeOf T) = some ss → (∀ (j : Nat) t v, ts[j]? = some t → vs[j]? = some v → Value.okWide P W .any base t v) →
    DataW.TrodAll enc P W 0 spare held ts vs ds p → ∃ xs, Vals W (fun b => b < W.heap.size) vs xs ∧ OkArgs ss xs ∧ ds.length = ts.length
  | [], ss, vs, ds, p, hm, _, h => by
    obtain ⟨rfl, rfl, rfl⟩ := trodAll_nil h
    simp only [List.mapM_nil, Option.pure_def, Option.some.injEq] at hm
    subst hm
    exact ⟨[], ⟨rfl, by simp⟩, trivial, rfl⟩
  | t :: ts, ss, vs, ds, p, hm, hv, h => by
    obtain ⟨v, vs', d, ds', q, q', rfl, rfl, rfl, h1, h2⟩ := trodAll_cons h
    simp only [List.mapM_cons, Option.pure_def, Option.bind_eq_bind, Option.bind_eq_some_iff, Option.some.injEq] at hm
    obtain ⟨s, hs, ss', hss, rfl⟩ := hm
    obtain ⟨x, hx1, hx2⟩ := arg_reads hT hs (hv 0 t v rfl rfl) h1
    obtain ⟨xs, ⟨g1, g2⟩, g3, g4⟩ := args_read hT hss (fun j t' v' ht hv' => hv (j + 1) t' v' ht hv') h2
    refine ⟨x :: xs, ⟨by simp [g1], fun i y u hy hu => ?_⟩, ⟨hx2, g3⟩, by simp [g4]⟩
    cases i with
    | zero => cases hy; cases hu; exact hx1
    | succ i => exact g2 i y u hy hu

theorem back (hl : laidOutB P = true) {W W' : World} (hb : Below W.heap.size W W') : ∀ {ts : List TypeId} {vs : List Value} {ds : List (DataW H)} {p : List MemPlace}, (∀ t ∈ ts, P.readableRec t = true ∧ t < P.types.size) →
    DataW.TrodAll enc P W 0 (fun _ => true) true ts vs ds p → DataW.TrodAll enc P W' 0 (fun b => decide (b < W.heap.size)) true ts vs ds p
  | [], vs, ds, p, _, h => by
    obtain ⟨rfl, rfl, rfl⟩ := trodAll_nil h
    exact trodAll_mk0
  | t :: ts, vs, ds, p, hr, h => by
    obtain ⟨v, vs', d, ds', q, q', rfl, rfl, rfl, h1, h2⟩ := trodAll_cons h
    obtain ⟨r1, r2⟩ := hr t (by simp)
    refine trodAll_cons_mk (Below.trod hl r1 r2 h1 hb ?_) (back hl hb (fun t' ht' => hr t' (by simp [ht'])) h2)
    obtain ⟨m, hm⟩ := h1
    exact DataW.trod_lt m _ _ _ hm

/-- What a law's call owes the row: it returns true, and the arguments read as they did. -/
theorem row_of_ret (hT : Tab.ok P T = true) (hl : laidOutB P = true) {f : FuncId} {fn : Func} {s : ChangeSpec} {ss : List (Bool × List CSh)} (hvars : s.vars = []) (hS : fn.params.toList.mapM (shapeOf T) = some ss)
    (hr : (fn.params.toList.all fun t => P.readableRec t && decide (t < P.types.size)) = true) {n : Nat} (hn : fn.params.toList.length = n) {rt : TypeId} (hres : fn.resultTypes = #[rt]) (hbool : P.underlying rt = some .bool)
    (hs : ∀ ds : List (DataW H), ds.length = n → s.fn H (ds ++ []) = { results := [.lit (.bool true)], args := ds, vars := [] })
    (hret : ∀ xs, OkArgs ss xs → Ret P f none xs [] (.c (.v (.bool true)))) {W : World} {base : Nat} {args : Array Value} {ds gs : List (DataW H)} {before : List MemPlace}
    (hLD : LD W (fun b => b < W.heap.size))
    (hval : ∀ (j : Nat) t v, fn.params[j]? = some t → args[j]? = some v → Value.okWide P W .any base t v)
    (hW : DataW.Whole enc P fn.params.toList s.vars false W args.toList ds gs before) :
    Calls P f args W fun e W' => ∃ v, e = .returned v ∧ s.post enc P fn false true false false W args v W' := by
  have hW' := hW
  obtain ⟨p, q, hA, hV, rfl, hfz, hnd⟩ := hW
  rw [hvars] at hV
  obtain ⟨rfl, rfl⟩ := trodVars_none hV
  obtain ⟨xs, hvs, hok, hdl⟩ := args_read hT hS (fun j t v ht hv => hval j t v (by simpa using ht) (by simpa using hv)) hA
  rw [hn] at hdl
  have hr' : ∀ t ∈ fn.params.toList, P.readableRec t = true ∧ t < P.types.size := by
    intro t ht
    have := List.all_eq_true.1 hr t ht
    simpa using this
  obtain ⟨_, _, hcall⟩ := hret xs hok
  have := hcall W (fun b => b < W.heap.size) 0 [] args.toList (fun b hb => hb) hLD rfl hvs
  simp only [List.nil_append, Array.toArray_toList] at this
  refine this.mono ?_
  rintro e W' ⟨v, F', rfl, hp⟩
  have bel : Below W.heap.size W W' := ⟨hp.os, hp.tape, hp.output, hp.size, fun k hk => hp.frame k hk (by simp [IoOwn])⟩
  have hv : v = .bool true := by
    have := hp.res
    simp only [RRep] at this
    cases this
    rfl
  subst hv
  refine ⟨_, rfl, ds, [], _, [], p, [], hW', ?_, ?_, ?_, bel.frame _, fun h => by cases h⟩
  · rw [hs ds hdl, hres]
    exact trodAll_mk1 ⟨1, by simp [DataW.trod, Value.cells, hbool]⟩
  · rw [hs ds hdl]
    exact back hl bel hr' hA
  · rw [hs ds hdl, hvars]
    rfl

theorem okagg {L : List CSh} {ss : List (Bool × List CSh)} {xs : List AV} (h : OkArgs ((true, L) :: ss) xs) : ∃ ys xs', xs = .agg (ys.map .c) :: xs' ∧ Okl L ys ∧ OkArgs ss xs' := by
  cases xs with
  | nil => exact h.elim
  | cons x xs' =>
    obtain ⟨⟨ys, rfl, hy⟩, h2⟩ := h
    exact ⟨ys, xs', rfl, hy, h2⟩
theorem okone {c : CSh} {ss : List (Bool × List CSh)} {xs : List AV} (h : OkArgs ((false, [c]) :: ss) xs) : ∃ y xs', xs = .c y :: xs' ∧ Okc c y ∧ OkArgs ss xs' := by
  cases xs with
  | nil => exact h.elim
  | cons x xs' =>
    obtain ⟨⟨y, rfl, hy⟩, h2⟩ := h
    exact ⟨y, xs', rfl, hy, h2⟩
theorem okdone {xs : List AV} (h : OkArgs [] xs) : xs = [] := by
  cases xs with
  | nil => rfl
  | cons _ _ => exact h.elim
theorem okcons {c : CSh} {L : List CSh} {ys : List CV} (h : Okl (c :: L) ys) : ∃ y ys', ys = y :: ys' ∧ Okc c y ∧ Okl L ys' := by
  cases ys with
  | nil => simp [Okl] at h
  | cons y ys' => simp only [Okl] at h; exact ⟨y, ys', rfl, h.1, h.2⟩
theorem oknil {ys : List CV} (h : Okl [] ys) : ys = [] := by
  cases ys with
  | nil => rfl
  | cons _ _ => simp [Okl] at h
theorem okint {k : IntKind} {y : CV} (h : Okc (.int k) y) : ∃ n, y = .v (.int k n) ∧ k.min ≤ n ∧ n ≤ k.max := by
  simp only [Okc] at h
  obtain ⟨n, rfl, hw⟩ := h
  refine ⟨n, rfl, ?_⟩
  simpa [Lit.wf] using hw
theorem okstr {y : CV} (h : Okc .str y) : ∃ s : ByteArray, y = .v (.string s) ∧ s.size ≤ 9223372036854775807 := by
  simp only [Okc] at h
  exact h
theorem okbool {y : CV} (h : Okc .bool y) : ∃ b, y = .v (.bool b) := by
  simp only [Okc] at h
  exact h
theorem oksl {row : List CSh} {y : CV} (h : Okc (.sl row) y) : ∃ nl rows, y = .sl nl false row.length rows ∧ rows.length ≤ 9223372036854775807 ∧ (nl = true → rows = []) ∧ ∀ r ∈ rows, Okl row r := by
  simp only [Okc] at h
  exact h
end
end Go.Proofs.Ytnnpjblpiecfdaa.Fw
