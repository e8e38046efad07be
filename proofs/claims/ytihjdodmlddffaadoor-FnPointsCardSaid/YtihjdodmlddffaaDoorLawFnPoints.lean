/- The row of the law FnPoints: out of the contract of its call. No condition. -/
import Derived.Test.YtihjdodmlddffaaDoorRows
import Derived.Test.YtihjdodmlddffaaDoorCards
import Derived.Test.YtihjdodmlddffaaDoorTie
import Derived.Test.YtihjdodmlddffaaDoorPuHB
import Derived.Test.YtihjdodmlddffaaDoorFwZb
import Derived.WalkKit
import Derived.LaidMore
import Derived.Lib.LaidTab
import Derived.MakeChecks
import Derived.LaidHandle
import Derived.Stop.Joined
import Derived.SevenTiedAt
import Derived.Lay
import Derived.Shelf.Vars
import Derived.ProofKit
import Derived.OpenShut
import Derived.ShutString
import Derived.ChangeOld
import Derived.Below
import Derived.SizedLaws
namespace Go.Proofs.YtihjdodmlddffaaDoor.LawFnPoints
open Go.ChangeShapes Go.WideShapes Go.ChangeAt Go.RowKit Fw
set_option linter.unusedVariables false
theorem own : ownKnob Tryd.prog.godebug = none := by kernel_rfl
theorem laidOut : laidOutB Tryd.prog = true := by kernel_rfl
theorem args (xs : List AV) (h : OkArgs [(false, [.sl [.int .u8]]), (false, [.sl [.int .u8]])] xs) : Ret Tryd.prog 4 none xs [] (.c (.v (.bool true))) := by
  obtain ⟨y0, xs0, rfl, e0, h0⟩ := okone h
  obtain ⟨y1, xs1, rfl, e1, h1⟩ := okone h0
  obtain rfl := okdone h1
  obtain ⟨nlv0, v0, rfl, hlv0, hnv0, hrv0⟩ := oksl e0
  obtain ⟨nlv1, v1, rfl, hlv1, hnv1, hrv1⟩ := oksl e1
  exact ret_FnPoints nlv0 v0 hlv0 hnv0 hrv0 nlv1 v1 hlv1 hnv1 hrv1
theorem int_cell {P : Program} {w : World} {g : Nat} {t : TypeId} {zero : Array Value} {k : IntKind} (h : w.ShapedOpen P) (hg : g < P.globals.size)
    (h0 : ((begin P (fun _ _ => 0) default).world.heap[g]?).bind Obj.row? = some (zero, t)) (hz : zero.size = 1)
    (hb : P.buildable t = true) (hc : P.cellTypes P.depth t = some [t]) (hu : P.underlying t = some (.int k)) :
    ∃ m t' s, w.heap[g]? = some (.cells #[.int k m] t' s) := by
  obtain ⟨m, hm⟩ := Go.Proofs.cell_of_shapedOpen_int h hg h0 hz hb hc hu
  obtain ⟨cs, hh, hs, _⟩ := h.1 g zero t hg h0
  have h1 : cs.size = 1 := by omega
  have hcell : w.cell? ⟨g, 0, none⟩ = some cs[0] := by simp [World.cell?, hh, h1]
  have e : cs[0] = .int k m := Option.some.inj (hcell.symm.trans hm)
  have : cs = #[.int k m] := by
    apply Array.ext
    · simpa using h1
    · intro i hi _
      have : i = 0 := by omega
      subst this
      simpa using e
  subst this
  exact ⟨m, _, _, hh⟩
section
variable {H : Type} {enc : TypeId × Value → H}
theorem change_open {a : Assume} {C : Checked} {os : Os} {f : FuncId} {fn : Func} {s : ChangeSpec} {conds : List PathCond} {apart fresh handsOn again : Bool} {X : World → Array Value → Prop}
    (hX : ∀ (w w' : World) (args : Array Value), w.heap = w'.heap → X w args → X w' args)
    (own : ownKnob C.prog.godebug = none) (started : os.Started) (noInit : C.prog.inits.idxOf? f = none) (hfn : C.prog.funcs[f]? = some fn)
    (witness : ∃ (w : World) (tape : Tape) (i : Input), w.os = os ∧ (w.forCall tape i).Shaped C.prog ∧ i.vars = [] ∧ Input.okWide C.prog (w.forCall tape i) .any w.heap.size f i ∧
      ((s.pre enc C.prog fn conds apart (w.forCall tape i).memory i.args ∧ X (w.forCall tape i).memory i.args) ∧ sizedMet enc C.prog fn (OpenSpec.ofChange s) apart (w.forCall tape i).memory i.args) ∧ a.holds C.prog (lone (Frame.enter C.prog f i.args .normal) [] (w.forCall tape i)))
    (contract : ∀ (W : World) (base : Nat) (args : Array Value) (ds gs : List (DataW H)) (before : List MemPlace),
      (∀ (j : Nat) t v, fn.params[j]? = some t → args[j]? = some v → Value.okWide C.prog W .any base t v) →
      DataW.Whole enc C.prog fn.params.toList s.vars apart W args.toList ds gs before →
      conds.all (PathCond.test C.prog ⟨fn.params.toList, ds, s.plain.varTypes C.prog, gs⟩) = true →
      (DataW.weightsEach C.prog (fn.params.toList ++ s.plain.varTypes C.prog) (ds ++ gs)).all (· ≤ reachBytes) = true → X W args → W.ShapedOpen C.prog →
      a.holds C.prog (lone (Frame.enter C.prog f args .normal) [] W) →
      Calls C.prog f args W fun e W' => ∃ v, e = .returned v ∧ s.post enc C.prog fn apart fresh handsOn again W args v W') :
    ReturnsInHanded a C os f .any (fun w args => (s.pre enc C.prog fn conds apart w args ∧ X w args) ∧ sizedMet enc C.prog fn (OpenSpec.ofChange s) apart w args) (s.post enc C.prog fn apart fresh handsOn again) := by
  refine returnsInHanded_of_calls own started noInit witness ?_
  intro w tape i _ hsh _ hok hpre hholds
  obtain ⟨_, _, _, fn', hfn', _, _, _, _, hval⟩ := hok
  have e : fn' = fn := Option.some.inj (hfn'.symm.trans hfn)
  subst e
  obtain ⟨⟨⟨ds, gs, before, hw, hc⟩, hx⟩, hz⟩ := hpre
  have hw' := DataW.Whole.of_heap (w' := w.forCall tape i) (by rfl) hw
  refine (contract (w.forCall tape i) w.heap.size i.args ds gs before hval hw' hc (hz.weights hw) (hX _ _ _ (by rfl) hx) hsh hholds).mono fun e W' ⟨v, he, hp⟩ => ?_
  subst he
  exact ChangeSpec.post_blind hp
end
theorem ld_of {W : World} (h : laidMetH Tryd.prog Rows.fnPointsRow.laid W) (hsh : W.ShapedOpen Tryd.prog) : LD W (fun b => b < W.heap.size) := by
  rw [MakeChecks.laidMetH_plain _ _ _ (by kernel_rfl)] at h
  obtain ⟨ps, ⟨g0, t0, cs0, f0, p0, q0, hg0, ht0, hv0, hd0, ⟨g1, t1, cs1, f1, p1, q1, hg1, ht1, hv1, hd1, ⟨g2, t2, cs2, f2, p2, q2, hg2, ht2, hv2, hd2, _, _⟩, _⟩, _⟩, _, _⟩ := h
  have hg : Tryd.prog.globalNamed "internal/strconv.uint64pow10" = some 0 := by kernel_rfl
  obtain rfl := Option.some.inj (hg.symm.trans hg2)
  have hty : (Tryd.prog.globals[0]?).map (·.type) = some 123 := by kernel_rfl
  obtain rfl := Option.some.inj (hty.symm.trans ht2)
  have hlit : (Rows.laid_internal_strconv_uint64pow10 : DataW Unit) = Lib.tabData .u64 Lib.pow10Tab := rfl
  rw [hlit] at hd2
  have hc := Lib.cells_of_tab (e := 87) (n := 20) (by kernel_rfl) (by kernel_rfl) (by kernel_rfl) (by kernel_rfl) hd2
  unfold World.var? at hv2
  rw [hg] at hv2
  have hv : (match W.heap[0]? with | some (Go.Obj.cells cs _ _) => some cs | _ => none) = some cs2 := hv2
  intro x hx
  simp only [tabs, List.mem_cons, List.not_mem_nil, or_false] at hx
  rcases hx with rfl | rfl
  · split at hv
    · rename_i cs t s hh
      obtain rfl := Option.some.inj hv
      refine ⟨?_, _, hh, t, s, ?_⟩
      · show 0 < W.heap.size
        rcases Nat.lt_or_ge 0 W.heap.size with q | q
        · exact q
        · rw [Array.getElem?_eq_none q] at hh; cases hh
      · rw [← hc]
    · cases hv
  · obtain ⟨m, t, s, hh⟩ := int_cell (P := Tryd.prog) (g := 1) (t := 3) (zero := #[.int .i64 0]) (k := .i64) hsh (of_decide_eq_true (by kernel_rfl)) (by kernel_rfl) rfl (by kernel_rfl) (by kernel_rfl) (by kernel_rfl)
    refine ⟨?_, _, hh, m, t, s, rfl⟩
    show 1 < W.heap.size
    rcases Nat.lt_or_ge 1 W.heap.size with q | q
    · exact q
    · rw [Array.getElem?_eq_none q] at hh; cases hh
theorem door_met (os : Os) (args : Array Value) : laidMetH Tryd.prog Rows.fnPointsRow.laid ((World.laidAll Tryd.prog os Rows.fnPointsRow.laid).forCall (fun _ _ => 0) ⟨#[], args, []⟩).memory := by
  rw [MakeChecks.laidMetH_plain _ _ _ (by kernel_rfl)]
  exact laidMet_laidAll _ (by kernel_rfl) (by kernel_rfl)
set_option maxRecDepth 100000 in
theorem lifted (os : Os) (started : os.Started) (H : Type) (enc : TypeId × Value → H) :
    ReturnsInHanded {} Tryd.checked os 4 .any (fun w args => (Rows.fnPointsSpec.pre enc Tryd.prog Tryd.f4 [] false w args ∧ laidMetH Tryd.prog Rows.fnPointsRow.laid w) ∧ sizedMet enc Tryd.prog Tryd.f4 (OpenSpec.ofChange Rows.fnPointsSpec) false w args)
      (Rows.fnPointsSpec.post enc Tryd.prog Tryd.f4 false true false false) := by
  refine change_open (C := Tryd.checked) (X := fun w _ => laidMetH Tryd.prog Rows.fnPointsRow.laid w) (fun _ _ _ hh h => h.of_heap hh) own started (by kernel_rfl) Tryd.func4
    (ChangeSpec.witness_shaped (enc := enc) (C := Tryd.checked) (os := os) (X := fun w _ => laidMetH Tryd.prog Rows.fnPointsRow.laid w) false (World.laidAll Tryd.prog os Rows.fnPointsRow.laid) #[.slice none 0 0, .slice none 0 0] 8 (World.laidAll_os _ _ _) (World.shaped_of_ZipB (by kernel_rfl) (by kernel_rfl)) (by kernel_rfl) (by kernel_rfl) (by kernel_rfl) (door_met os _)) ?_
  intro W base args ds gs before hval hW _ _ hL hsh _
  exact row_of_ret T_ok laidOut rfl (by kernel_rfl) (by kernel_rfl) (n := 2) (by kernel_rfl) rfl (by kernel_rfl) (fun ds hd => match ds, hd with | [_, _], _ => rfl) LawFnPoints.args (ld_of hL hsh) hval hW
theorem over : Rows.fnPointsRow.holds Tryd.pinned (OpenSpec.ofChange Rows.fnPointsSpec) :=
  OpenClaim.holds_of_wide 4 Tryd.f4 rfl rfl rfl rfl rfl rfl rfl ⟨rfl, rfl, rfl, rfl, rfl⟩ rfl rfl rfl rfl rfl (by kernel_rfl) Tryd.func4 (by kernel_rfl)
    (of_decide_eq_true (by kernel_rfl)) (by unfold Func.isWrapper; first | (rw [if_pos (by decide +kernel)]; kernel_rfl) | (rw [if_neg (by decide +kernel)]; exact ⟨rfl, rfl⟩))
    (fun os started H enc _ => lifted os started H enc)
end Go.Proofs.YtihjdodmlddffaaDoor.LawFnPoints
namespace Go.Proofs.YtihjdodmlddffaaDoor
/-- The law's card. -/
theorem fnPoints_holds : Rows.FnPointsCardSaid :=
  Claim7.holds_tied_plain_at .later [] [.data, .data, .data] true (true, "4779d64de367e8083d3f3144e95e6de7a9f7336d55fb7e153737935ef03e9f53") false
    LawFnPoints.over (fun _ h => by cases h) (by kernel_rfl) (fun _ h => by cases h) fnPoints_row_tie rfl ⟨rfl, rfl⟩ (by kernel_rfl) rfl
    (fun f fn hf hfn => by
      obtain rfl : f = 4 := Option.some.inj ((show Tryd.prog.funcNamed "loop.example/g00956/laws.FnPoints" = some 4 by kernel_rfl).symm.trans hf) |>.symm
      obtain rfl : fn = Tryd.f4 := (Option.some.inj (Tryd.func4.symm.trans hfn)).symm
      exact ⟨by kernel_rfl, fun j t ht => by
        rw [Tryd.params4] at ht
        have h3 : t = 22 ∨ t = 22 := by
          match j, ht with
          | 0, ht => simp at ht; exact Or.inl ht.symm
          | 1, ht => simp at ht; exact Or.inr (ht.symm)
          | j + 2, ht => simp at ht
        rcases h3 with rfl | rfl
        · exact (show Tryd.prog.wantsStandIn 22 = false by kernel_rfl)
        · exact (show Tryd.prog.wantsStandIn 22 = false by kernel_rfl)⟩)
    (by kernel_rfl)
#print axioms fnPoints_holds
end Go.Proofs.YtihjdodmlddffaaDoor
