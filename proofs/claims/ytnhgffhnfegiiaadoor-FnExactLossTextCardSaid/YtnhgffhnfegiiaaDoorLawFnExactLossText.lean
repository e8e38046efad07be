/- The row of the law FnExactLossText: out of the contract of its call. No condition. -/
import Derived.Test.YtnhgffhnfegiiaaDoorRows
import Derived.Test.YtnhgffhnfegiiaaDoorCards
import Derived.Test.YtnhgffhnfegiiaaDoorTie
import Derived.Test.YtnhgffhnfegiiaaDoorPuLT
import Derived.Test.YtnhgffhnfegiiaaDoorFwZb
import Derived.WalkKit
import Derived.LaidMore
import Derived.Lib.LaidTab
import Derived.MakeChecks
import Derived.LaidHandle
import Derived.Stop.Joined
import Derived.SevenTiedAt
import Derived.ProofKit
import Derived.OpenShut
import Derived.ShutString
import Derived.ChangeOld
import Derived.Below
import Derived.SizedLaws
namespace Go.Proofs.YtnhgffhnfegiiaaDoor.LawFnExactLossText
open Go.ChangeShapes Go.WideShapes Go.ChangeAt Go.RowKit Fw
set_option linter.unusedVariables false
theorem own : ownKnob Tryd.prog.godebug = none := by kernel_rfl
theorem laidOut : laidOutB Tryd.prog = true := by kernel_rfl
theorem args (xs : List AV) (h : OkArgs [(true, [.str, .str, .int .i64, .int .i64, .int .i64, .int .i64, .int .i64, .int .i64])] xs) : Ret Tryd.prog 4 none xs [] (.c (.v (.bool true))) := by
  obtain ⟨ys0, xs0, rfl, k0, h0⟩ := okagg h
  obtain ⟨y0_0, ys0_0, rfl, e0_0, k0_0⟩ := okcons k0
  obtain ⟨y0_1, ys0_1, rfl, e0_1, k0_1⟩ := okcons k0_0
  obtain ⟨y0_2, ys0_2, rfl, e0_2, k0_2⟩ := okcons k0_1
  obtain ⟨y0_3, ys0_3, rfl, e0_3, k0_3⟩ := okcons k0_2
  obtain ⟨y0_4, ys0_4, rfl, e0_4, k0_4⟩ := okcons k0_3
  obtain ⟨y0_5, ys0_5, rfl, e0_5, k0_5⟩ := okcons k0_4
  obtain ⟨y0_6, ys0_6, rfl, e0_6, k0_6⟩ := okcons k0_5
  obtain ⟨y0_7, ys0_7, rfl, e0_7, k0_7⟩ := okcons k0_6
  obtain rfl := oknil k0_7
  obtain rfl := okdone h0
  obtain ⟨v0, rfl, hsv0⟩ := okstr e0_0
  obtain ⟨v1, rfl, hsv1⟩ := okstr e0_1
  obtain ⟨v2, rfl, lov2, hiv2⟩ := okint e0_2
  obtain ⟨v3, rfl, lov3, hiv3⟩ := okint e0_3
  obtain ⟨v4, rfl, lov4, hiv4⟩ := okint e0_4
  obtain ⟨v5, rfl, lov5, hiv5⟩ := okint e0_5
  obtain ⟨v6, rfl, lov6, hiv6⟩ := okint e0_6
  obtain ⟨v7, rfl, lov7, hiv7⟩ := okint e0_7
  exact ret_FnExactLossText v0 hsv0 v1 hsv1 v2 lov2 hiv2 v3 lov3 hiv3 v4 lov4 hiv4 v5 lov5 hiv5 v6 lov6 hiv6 v7 lov7 hiv7
theorem ld_of {W : World} (h : laidMetH Tryd.prog Rows.fnExactLossTextRow.laid W) : LD W (fun b => b < W.heap.size) := by
  rw [MakeChecks.laidMetH_plain _ _ _ (by kernel_rfl)] at h
  obtain ⟨ps, ⟨g0, t0, cs0, f0, p0, q0, hg0, ht0, hv0, hd0, ⟨g1, t1, cs1, f1, p1, q1, hg1, ht1, hv1, hd1, ⟨g2, t2, cs2, f2, p2, q2, hg2, ht2, hv2, hd2, _, _⟩, _⟩, _⟩, _, _⟩ := h
  have hg : Tryd.prog.globalNamed "internal/strconv.uint64pow10" = some 1 := by kernel_rfl
  obtain rfl := Option.some.inj (hg.symm.trans hg2)
  have hty : (Tryd.prog.globals[1]?).map (·.type) = some 122 := by kernel_rfl
  obtain rfl := Option.some.inj (hty.symm.trans ht2)
  have hlit : (Rows.laid_internal_strconv_uint64pow10 : DataW Unit) = Lib.tabData .u64 Lib.pow10Tab := rfl
  rw [hlit] at hd2
  have hc := Lib.cells_of_tab (e := 111) (n := 20) (by kernel_rfl) (by kernel_rfl) (by kernel_rfl) (by kernel_rfl) hd2
  unfold World.var? at hv2
  rw [hg] at hv2
  have hv : (match W.heap[1]? with | some (Go.Obj.cells cs _ _) => some cs | _ => none) = some cs2 := hv2
  intro x hx
  simp only [tabs, List.mem_cons, List.not_mem_nil, or_false] at hx
  subst hx
  split at hv
  · rename_i cs t s hh
    obtain rfl := Option.some.inj hv
    refine ⟨?_, _, hh, t, s, ?_⟩
    · show 1 < W.heap.size
      rcases Nat.lt_or_ge 1 W.heap.size with q | q
      · exact q
      · rw [Array.getElem?_eq_none q] at hh; cases hh
    · rw [← hc]
  · cases hv
theorem door_met (os : Os) (args : Array Value) : laidMetH Tryd.prog Rows.fnExactLossTextRow.laid ((World.doorLaid Tryd.prog 400 os).forCall (fun _ _ => 0) ⟨#[], args, []⟩).memory :=
  laidMetH_of_parts3 (fuel := 8) (laidMet_of_run' 8 (by kernel_rfl) (by kernel_rfl)) (by kernel_rfl) (by kernel_rfl)
set_option maxRecDepth 100000 in
theorem lifted (os : Os) (started : os.Started) (H : Type) (enc : TypeId × Value → H) :
    ReturnsInHanded {} Tryd.checked os 4 .any (fun w args => (Rows.fnExactLossTextSpec.pre enc Tryd.prog Tryd.f4 [] false w args ∧ laidMetH Tryd.prog Rows.fnExactLossTextRow.laid w) ∧ sizedMet enc Tryd.prog Tryd.f4 (OpenSpec.ofChange Rows.fnExactLossTextSpec) false w args)
      (Rows.fnExactLossTextSpec.post enc Tryd.prog Tryd.f4 false true false false) := by
  refine returnsInHanded_of_change_and (C := Tryd.checked) (X := fun w _ => laidMetH Tryd.prog Rows.fnExactLossTextRow.laid w) (fun _ _ _ hh h => h.of_heap hh) own started (by kernel_rfl) Tryd.func4
    (ChangeSpec.witness_shaped (enc := enc) (C := Tryd.checked) (os := os) (X := fun w _ => laidMetH Tryd.prog Rows.fnExactLossTextRow.laid w) false (World.doorLaid Tryd.prog 400 os) #[.agg #[.string ByteArray.empty, .string ByteArray.empty, .int .i64 0, .int .i64 0, .int .i64 0, .int .i64 0, .int .i64 0, .int .i64 0]] 8 rfl (World.shaped_of_RefB (by kernel_rfl) (by kernel_rfl)) (by kernel_rfl) (by kernel_rfl) (by kernel_rfl) (door_met os _)) ?_
  intro W base args ds gs before hval hW _ _ hL _
  exact row_of_ret T_ok laidOut rfl (by kernel_rfl) (by kernel_rfl) (n := 1) (by kernel_rfl) rfl (by kernel_rfl) (fun ds hd => match ds, hd with | [_], _ => rfl) LawFnExactLossText.args (ld_of hL) hval hW
theorem over : Rows.fnExactLossTextRow.holds Tryd.pinned (OpenSpec.ofChange Rows.fnExactLossTextSpec) :=
  OpenClaim.holds_of_wide 4 Tryd.f4 rfl rfl rfl rfl rfl rfl rfl ⟨rfl, rfl, rfl, rfl, rfl⟩ rfl rfl rfl rfl rfl (by kernel_rfl) Tryd.func4 (by kernel_rfl)
    (of_decide_eq_true (by kernel_rfl)) (by unfold Func.isWrapper; first | (rw [if_pos (by decide +kernel)]; kernel_rfl) | (rw [if_neg (by decide +kernel)]; exact ⟨rfl, rfl⟩))
    (fun os started H enc _ => lifted os started H enc)
end Go.Proofs.YtnhgffhnfegiiaaDoor.LawFnExactLossText
namespace Go.Proofs.YtnhgffhnfegiiaaDoor
/-- The law's card. -/
theorem fnExactLossText_holds : Rows.FnExactLossTextCardSaid :=
  Claim7.holds_tied_plain_at .later [] [.data, .data, .data] true (true, "7ab3bfc4bb4c88354199e83e6fe603515cf92a248389fcf3a55983a36b67d383") false
    LawFnExactLossText.over (fun _ h => by cases h) (by kernel_rfl) (fun _ h => by cases h) fnExactLossText_row_tie rfl ⟨rfl, rfl⟩ (by kernel_rfl) rfl
    (fun f fn hf hfn => by
      obtain rfl : f = 4 := Option.some.inj ((show Tryd.prog.funcNamed "loop.example/g00956/laws.FnExactLossText" = some 4 by kernel_rfl).symm.trans hf) |>.symm
      obtain rfl : fn = Tryd.f4 := (Option.some.inj (Tryd.func4.symm.trans hfn)).symm
      exact ⟨by kernel_rfl, fun j t ht => by
        rw [Tryd.params4] at ht
        have h3 : t = 32 := by
          rcases j with _ | j
          · simpa using ht.symm
          · simp at ht
        subst h3
        exact (show Tryd.prog.wantsStandIn 32 = false by kernel_rfl)⟩)
    (by kernel_rfl)
#print axioms fnExactLossText_holds
end Go.Proofs.YtnhgffhnfegiiaaDoor
