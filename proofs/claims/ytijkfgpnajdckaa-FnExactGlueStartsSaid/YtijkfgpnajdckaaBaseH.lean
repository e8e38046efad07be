/- Contracts of the functions that glue in an order. No condition. -/
import Derived.Test.YtijkfgpnajdckaaBaseG
namespace Go.Proofs.Ytijkfgpnajdckaa.Fw
open Go.RowKit
set_option linter.unusedSimpArgs false
set_option linter.unusedVariables false
set_option maxRecDepth 100000
theorem loAll_c (U : Nat → Prop) : ∀ (cs : List CV), loAll U (cs.map .c) = True
  | [] => rfl
  | c :: cs => by simp [loAll, loAll_c U cs, AV.lo]
structure Gd where
  start : Int
  press : Int
  beg : Int
  fin : Int
instance : Inhabited Gd := ⟨⟨0, 0, 0, 0⟩⟩
def gdRow (x : Gd) : List CV := [ic x.start, ic x.press, ic x.beg, ic x.fin]
def gd (g : Glu) (b : Bond) (n : Nat) : Gd := ⟨gStart g b n, pk g.free n, gBegin g b n, gEnd g b n⟩
def gRun (bs : List Bond) (n : Nat) : Glu → List Gd → List Int → Glu × List Gd
  | g, out, [] => (g, out)
  | g, out, x :: xs => gRun bs n (gNext g (bs.getD x.toNat default) n) (out.set x.toNat (gd g (bs.getD x.toNat default) n)) xs
def glu0 : Glu := ⟨0, [0, 0, 0, 0], 0⟩
def glueAll (bs : List Bond) (xs : List Int) (n : Nat) : Glu × List Gd := gRun bs n glu0 (List.replicate bs.length default) xs
set_option maxHeartbeats 1000000 in
theorem ret_glueAll (nl f : Bool) (bs : List Bond) (hn : nl = true → bs = []) (hl : bs.length ≤ 1048576) (nl' f' : Bool) (xs : List Int) (hn' : nl' = true → xs = []) (hl' : xs.length ≤ 1048576) (hx : ∀ x ∈ xs, 0 ≤ x ∧ x < (bs.length : Int)) (n : Nat) (h1 : n ≤ 4) :
    Ret Try.prog 60 none [.c (bondsV nl f bs), .c (intsV nl' f' xs), iv n] [] (.tup [.c (.sl false false 4 ((glueAll bs xs n).2.map gdRow)), .c (ic (glueAll bs xs n).1.en)]) := by
  refine Ret.intro (rs := [.tmp 6, .tmp 7]) T_ok Try.func60 rfl rfl Try.ntmps60 rfl (by simp [AV.lo]) (fun E => vc_sound T_ok _ ?_)
  repeat' first | with_reducible refine Cnd_if (fun _ => ?_) (fun _ => ?_) | with_reducible refine Cnd_split (fun _ => ?_) (fun _ => ?_) | with_reducible refine Grd_if (fun _ => ?_) (fun _ => ?_) | with_reducible refine Grd_if' (fun _ => ?_) (fun _ => ?_) | with_reducible refine Grd_split (fun _ => ?_) (fun _ => ?_) | with_reducible refine Grd_split' (fun _ => ?_) (fun _ => ?_) | with_reducible refine Val_if ?_ ?_ | with_reducible refine Val_unless ?_ ?_ | (with_reducible refine Efx_app ?_ ?_; (simp only [decide_eq_true_eq, List.length_append, List.length_map, List.length_cons, List.length_nil, List.length_take, List.length_replicate]; omega)) | (with_reducible refine Efx_makes ?_ ?_; (simp only [decide_eq_true_eq]; omega)) | ((with_reducible refine vc_of_drawQ T_ok follows_ok ?_ ?_ ?_); rfl; kernel_rfl) | ((with_reducible refine vc_of_drawL T_ok follows_ok ?_ ?_); kernel_rfl) | ((with_reducible refine Ldk_intro ?_ ?_); rfl) | (with_reducible refine EfxD_app ?_ ?_; (simp only [decide_eq_true_eq, List.length_append, List.length_map, List.length_cons, List.length_nil, List.length_take, List.length_replicate]; omega)) | simp only [push_cast, ↓reduceIte, Nat.left_eq_add, Nat.add_eq_left, Nat.reduceAdd, Nat.reduceSub, Nat.reduceMul, Nat.reduceLT, Nat.reduceLeDiff, Nat.reduceEqDiff, Nat.reduceDiv, Int.reduceNeg, Int.reduceEq, Int.reduceLT, Int.reduceLE, Int.reduceToNat, Nat.succ_eq_add_one, reduceCtorEq, decide_true, decide_false, true_and, and_true, ↓Int.cast_ofNat_Int, ne_eq, not_true_eq_false, not_false_eq_true, *] | omega | exact nl_of (by assumption) (by assumption)
  rw [show List.replicate bs.length [CV.v (Value.int .i64 0), CV.v (Value.int .i64 0), CV.v (Value.int .i64 0), CV.v (Value.int .i64 0)] = (List.replicate bs.length default).map gdRow from by rw [List.map_replicate]; rfl]
  refine vc_of_loopW T_ok (ι := {q : Nat × Glu × List Gd // q.1 ≤ xs.length ∧ q.2.1.free.length = 4 ∧ q.2.2.length = bs.length ∧ glueAll bs xs n = gRun bs n q.2.1 q.2.2 (xs.drop q.1)}) (fun q => ⟨.c (bondsV nl f bs) :: .junk :: iv n :: .junk :: .junk :: .junk :: .junk :: .junk :: .ref 7 0 :: .lsl 6 4 0 bs.length :: .junk :: .junk :: .junk :: .junk :: .junk :: .junk :: .c (intsV nl' f' xs) :: iv xs.length :: iv q.1.1 :: List.replicate 16 .junk, objsOf [(6, .arr 94 4 (q.1.2.2.map gdRow)), (7, .box 133 ((gluCells q.1.2.1).map .c))], 8⟩) (fun q => xs.length - q.1.1) ⟨(0, glu0, List.replicate bs.length default), Nat.zero_le _, rfl, List.length_replicate, rfl⟩ ?_ ?_
  · refine Wk.of_le ?_; refine Le.of (by repeat' first | exact trivial | refine ⟨Or.inr rfl, ?_⟩ | refine ⟨Or.inl rfl, ?_⟩) (by simp [AV.lo] <;> first | omega | (simp only; omega)) (by (simp only [leO, objsOf_cons, objsOf_nil, upd_apply, renO, renB, AObj.ren, AV.ren, renF, Option.map_some, Option.map_none, AObj.kill, AV.kill, AObj.frz, AV.frz, objLo_box, objLo_arr, loAll, AV.lo, ↓reduceIte, Nat.reduceAdd, Nat.reduceLT, Nat.reduceEqDiff, Nat.left_eq_add, Nat.add_eq_left, Nat.add_left_cancel_iff, Nat.add_right_cancel_iff, reduceCtorEq, and_true, true_and, List.map_append, List.map_cons, List.map_nil, gluCells, glu0, List.cons_append, List.nil_append]) <;> first | omega | (simp only; omega)) (by first | omega | (simp only; omega))
  · rintro ⟨⟨i, g, out⟩, hi, hg, ho, hs⟩
    simp only at hi hg ho hs
    have e0 : i < xs.length → IntKind.wrap .i64 (↑i + 1) = ↑i + 1 := fun _ => wrap_i64 (by omega) (by omega)
    by_cases hlt : i < xs.length
    · have e2 : nl' = false := nl_of hn' hlt
      subst e2
      have hm : xs.getD i default ∈ xs := by
        rw [List.getD_eq_getElem?_getD, List.getElem?_eq_getElem hlt, Option.getD_some]
        exact List.getElem_mem hlt
      have hr := hx _ hm
      rw [drop_getD hlt, gRun] at hs
      generalize hxe : xs.getD i default = x at *
      have hk : x.toNat < bs.length := by omega
      have hk2 : x.toNat < out.length := by omega
      have e3 : nl = false := nl_of hn hk
      subst e3
      repeat' first | with_reducible refine Cnd_if (fun _ => ?_) (fun _ => ?_) | with_reducible refine Cnd_split (fun _ => ?_) (fun _ => ?_) | with_reducible refine Grd_if (fun _ => ?_) (fun _ => ?_) | with_reducible refine Grd_if' (fun _ => ?_) (fun _ => ?_) | with_reducible refine Grd_split (fun _ => ?_) (fun _ => ?_) | with_reducible refine Grd_split' (fun _ => ?_) (fun _ => ?_) | with_reducible refine Val_if ?_ ?_ | with_reducible refine Val_unless ?_ ?_ | (with_reducible refine Efx_app ?_ ?_; (simp only [decide_eq_true_eq, List.length_append, List.length_map, List.length_cons, List.length_nil, List.length_take, List.length_replicate]; omega)) | (with_reducible refine Efx_makes ?_ ?_; (simp only [decide_eq_true_eq]; omega)) | ((with_reducible refine vc_of_drawQ T_ok follows_ok ?_ ?_ ?_); rfl; kernel_rfl) | ((with_reducible refine vc_of_drawL T_ok follows_ok ?_ ?_); kernel_rfl) | ((with_reducible refine Ldk_intro ?_ ?_); rfl) | (with_reducible refine EfxD_app ?_ ?_; (simp only [decide_eq_true_eq, List.length_append, List.length_map, List.length_cons, List.length_nil, List.length_take, List.length_replicate]; omega)) | ((with_reducible refine acall_ioE ?_); (refine ⟨_, _, (by exact rfl), _, (by first | exact toCVs_map _ | exact rfl), (by exact rfl), _, _, (by first | exact (ret_add' g hg (bs.getD x.toNat default) n h1)), ?_⟩)) | simp only [push_cast, ↓reduceIte, Nat.left_eq_add, Nat.add_eq_left, Nat.reduceAdd, Nat.reduceSub, Nat.reduceMul, Nat.reduceLT, Nat.reduceLeDiff, Nat.reduceEqDiff, Nat.reduceDiv, Int.reduceNeg, Int.reduceEq, Int.reduceLT, Int.reduceLE, Int.reduceToNat, Nat.succ_eq_add_one, reduceCtorEq, decide_true, decide_false, true_and, and_true, ↓Int.cast_ofNat_Int, ne_eq, not_true_eq_false, not_false_eq_true, hlt, e0, hr, hxe, hk, hk2, ho, bondRow, intRow, rows_get, gdRow] | omega | exact nl_of (by assumption) (by assumption)
      refine ⟨⟨(i + 1, gNext g (bs.getD x.toNat default) n, out.set x.toNat (gd g (bs.getD x.toNat default) n)), by simp only; omega, by simp only [gNext, List.length_set]; exact hg, by simp only [List.length_set]; exact ho, hs⟩, ?_, by simp only; omega⟩
      refine Wk.of_le ?_; refine Le.of (by repeat' first | exact trivial | refine ⟨Or.inr rfl, ?_⟩ | refine ⟨Or.inl rfl, ?_⟩) (by simp [AV.lo] <;> first | omega | (simp only; omega)) (by (simp only [leO, objsOf_cons, objsOf_nil, upd_apply, renO, renB, AObj.ren, AV.ren, renF, Option.map_some, Option.map_none, AObj.kill, AV.kill, AObj.frz, AV.frz, objLo_box, objLo_arr, loAll, AV.lo, ↓reduceIte, Nat.reduceAdd, Nat.reduceLT, Nat.reduceEqDiff, Nat.left_eq_add, Nat.add_eq_left, Nat.add_left_cancel_iff, Nat.add_right_cancel_iff, reduceCtorEq, and_true, true_and, List.map_append, List.map_cons, List.map_nil, List.map_set, gdRow, gd, loAll_c]) <;> first | omega | (simp only; omega)) (by first | omega | (simp only; omega))
    · rw [List.drop_of_length_le (by omega), gRun] at hs
      obtain ⟨r, fr, e⟩ := g
      match fr, hg with
      | [f0, f1, f2, f3], _ =>
        repeat' first | with_reducible refine Cnd_if (fun _ => ?_) (fun _ => ?_) | with_reducible refine Cnd_split (fun _ => ?_) (fun _ => ?_) | with_reducible refine Grd_if (fun _ => ?_) (fun _ => ?_) | with_reducible refine Grd_if' (fun _ => ?_) (fun _ => ?_) | with_reducible refine Grd_split (fun _ => ?_) (fun _ => ?_) | with_reducible refine Grd_split' (fun _ => ?_) (fun _ => ?_) | with_reducible refine Val_if ?_ ?_ | with_reducible refine Val_unless ?_ ?_ | (with_reducible refine Efx_app ?_ ?_; (simp only [decide_eq_true_eq, List.length_append, List.length_map, List.length_cons, List.length_nil, List.length_take, List.length_replicate]; omega)) | (with_reducible refine Efx_makes ?_ ?_; (simp only [decide_eq_true_eq]; omega)) | ((with_reducible refine vc_of_drawQ T_ok follows_ok ?_ ?_ ?_); rfl; kernel_rfl) | ((with_reducible refine vc_of_drawL T_ok follows_ok ?_ ?_); kernel_rfl) | ((with_reducible refine Ldk_intro ?_ ?_); rfl) | (with_reducible refine EfxD_app ?_ ?_; (simp only [decide_eq_true_eq, List.length_append, List.length_map, List.length_cons, List.length_nil, List.length_take, List.length_replicate]; omega)) | simp only [push_cast, ↓reduceIte, Nat.left_eq_add, Nat.add_eq_left, Nat.reduceAdd, Nat.reduceSub, Nat.reduceMul, Nat.reduceLT, Nat.reduceLeDiff, Nat.reduceEqDiff, Nat.reduceDiv, Int.reduceNeg, Int.reduceEq, Int.reduceLT, Int.reduceLE, Int.reduceToNat, Nat.succ_eq_add_one, reduceCtorEq, decide_true, decide_false, true_and, and_true, ↓Int.cast_ofNat_Int, ne_eq, not_true_eq_false, not_false_eq_true, hs, hlt, e0, ho, gluCells, List.length_map] | omega | exact nl_of (by assumption) (by assumption)
        rw [List.take_of_length_le (by rw [List.length_map]; omega)]
end Go.Proofs.Ytijkfgpnajdckaa.Fw
