/- A region that draws its order: every order is run. No condition. -/
import Derived.Test.YtnnpjblpiecfdaaFwGd
namespace Go.Proofs.Ytnnpjblpiecfdaa.Fw
open Go.RowKit
set_option linter.unusedVariables false
set_option linter.unusedSimpArgs false
def aftOf (ops : Array Oper) : List (List Nat) := ops.toList.map fun o => (o.after.toList.filter (Region.binds .any)).map (·.on)
def rdyL (A : List (List Nat)) (done : List Nat) : List Nat := (List.range A.length).filter fun i => !done.contains i && (A.getD i []).all fun j => done.contains j
def allL : List Nat → (Nat → Prop) → Prop
  | [], _ => True
  | i :: L, p => p i ∧ allL L p
def arun1 (P : Program) (T : Tab) (ops : Array Oper) (s : AState) (K : AState → Prop) : Option Oper → Prop
  | some o => arun false P T ops [o] s K
  | none => False
/-- Operations that look at no memory. -/
def still : Op → Bool
  | .move _ => true
  | .fieldAddr _ _ _ => true
  | _ => false
/-- An operation that meets none of those that are still to come. -/
def freeD (ops : Array Oper) (done : List Nat) (i : Nat) (oi : Oper) : Bool := (List.range ops.size).all fun j => j == i || done.contains j || match ops[j]? with
  | some oj => oj.after.any (fun e => Region.binds .any e && e.on == i) || oi.apart ops oj
  | none => true
def takeD (ops : Array Oper) (A : List (List Nat)) (done : List Nat) (i : Nat) (o : Oper) : Bool := (rdyL A done).contains i && o.guard.isNone && still o.op && freeD ops done i o && Region.noSelect ops
def adraw (P : Program) (T : Tab) (ops : Array Oper) (A : List (List Nat)) (base : Nat) : Nat → List Nat → AState → (AState → Prop) → Prop
  | 0, _, s, K => K { s with next := base + ops.size }
  | n + 1, done, s, K => (∃ L, rdyL A done = L ∧ L ≠ [] ∧ allL L fun i => arun1 P T ops { s with next := base + i } (fun s' => adraw P T ops A base n (i :: done) s' K) ops[i]?) ∨
      (∃ i o x, ops[i]? = some o ∧ takeD ops A done i o = true ∧ apure T { s with next := base + i } o.op = some x ∧ adraw P T ops A base n (i :: done) ((AState.put { s with next := base + i } o.dst x).bump) K)
section
variable {P : Program} {T : Tab} {E : Entry} {s : AState} {a : Act} {w : World} {F : Nat → Prop} {B : Beta} {U : Nat → Prop} {ops : Array Oper}
theorem allL_mem : ∀ {L : List Nat} {p : Nat → Prop}, allL L p → ∀ i ∈ L, p i
  | [], _, _, i, hi => by simp at hi
  | j :: L, p, h, i, hi => by
    rcases List.mem_cons.1 hi with rfl | hi
    · exact h.1
    · exact allL_mem h.2 i hi
theorem RelB.nextTo (h : RelB E s a w F B U) (n : Nat) : RelB E { s with next := n } a w F B U := { h with tmps := h.tmps }
theorem still_run (hT : Tab.ok P T = true) (h : RelB E s a w F B U) {o : Oper} {z : AV} (hs : still o.op = true) (he : apure T s o.op = some z) :
    ∃ v, (∀ w', (execOp a.eval o).run P w' = .ok (.value v) w') ∧ ARep w F B v z ∧ z.lo U := by
  unfold still at hs
  split at hs
  · rename_i x ho
    rw [ho] at he
    simp only [apure] at he
    cases he
    exact ⟨_, fun w' => by simp [execOp, ho], eval_rep h x, eval_lo h x⟩
  · rename_i t xo f ho
    rw [ho] at he
    simp only [apure] at he
    have hx := eval_rep h xo
    have hlo := eval_lo h xo
    have hrun : ∀ {w' : World} {v}, (Instr.fieldAt t (a.eval xo) f).run P w' = .ok v w' → (execOp a.eval o).run P w' = .ok (.value v) w' := fun hv => by simp [execOp, ho, hv]
    generalize a.eval xo = v at *
    generalize s.eval xo = x at *
    unfold afieldAddr at he
    split at he
    · rename_i i hi
      split at he
      · rename_i fs hd
        split at he
        · rename_i ft off hf
          split at he
          · rename_i j hj
            split at he
            · cases he
            · rename_i hz
              obtain ⟨fields, hu, hfs⟩ := desc_struct hT (t := t) (fs := fs) (by unfold Tab.desc; rw [hi, ← hd])
              obtain ⟨fl, hfl, hft, hoff⟩ := struct_field hfs hf
              have key : ∀ (w' : World) ad, v = .pointer (some ad) → (Instr.fieldAt t v f).run P w' = .ok (.pointer (some (ad.add off))) w' := by
                rintro w' ad rfl
                simp [Instr.fieldAt, run_underlying hu, hfl, Instr.sureAddr, field_place hT hj hz hft, hoff]
              split at he
              · split at he
                · cases he
                  obtain ⟨b, n, _, hb, _, _⟩ := alive_B h ‹_›
                  cases hx with | ref hx =>
                  refine ⟨_, fun w' => hrun (key w' _ (hx b n hb)), .ref fun b' n' hb' => ?_, by simp only [AV.lo] at hlo ⊢; exact hlo⟩
                  rw [hb] at hb'; cases hb'
                  rw [add_plain]
                · cases he
              · split at he
                · cases he
                  obtain ⟨b, n, _, hb, _, _⟩ := alive_B h ‹_›
                  cases hx with | eref hx =>
                  refine ⟨_, fun w' => hrun (key w' _ (hx b n hb)), .eref fun b' n' hb' => ?_, by simp only [AV.lo] at hlo ⊢; exact hlo⟩
                  rw [hb] at hb'; cases hb'
                  rw [add_plain, Nat.add_assoc]
                · cases he
              · cases he
                cases hx with | c hx =>
                have hx' := hx
                cases hx with | rp g h1 h2 =>
                exact ⟨_, fun w' => hrun (key w' _ rfl), .c (rp_drop off hx'), lo_c _ _⟩
              · cases he
          · cases he
        · cases he
      · cases he
    · cases he
  · cases hs
theorem adraw_sound (hT : Tab.ok P T = true) {A : List (List Nat)} (hA : aftOf ops = A) {base : Nat} {K : AState → Prop} {Q : Exit → Act → World → Prop}
    (hQ : ∀ s a w F B U, K s → RelB E s a w F B U → (∀ l, U l → l < base + ops.size) → s.next = base + ops.size → Q .normal a w) (hQp : ∀ c a w, ¬ Q (.panic c) a w) :
    ∀ (fuel : Nat) (listed : Array Bool) (done : List Nat) (a : Act) (w : World) (s : AState) (F : Nat → Prop) (B : Beta) (U : Nat → Prop), listed.size = ops.size → (unlisted ops.size listed).length = fuel → (∀ j, j < ops.size → (listed.getD j true = true ↔ j ∈ done)) → (∀ j ∈ done, j < ops.size) →
      RelB E s a w F B U → (∀ l, U l → l < base + ops.size) → (∀ k, k < ops.size → k ∉ done → ¬ U (base + k)) → adraw P T ops A base fuel done s K → wpAny P .any ops Q fuel listed a w := by
  intro fuel
  have hlenA : A.length = ops.size := by rw [← hA]; simp [aftOf]
  have hgetA : ∀ (i : Nat) (o : Oper), ops[i]? = some o → A.getD i [] = (o.after.toList.filter (Region.binds .any)).map (·.on) := by
    intro i o ho
    rw [← hA]
    obtain ⟨h1, h2⟩ := Array.getElem?_eq_some_iff.1 ho
    simp [aftOf, List.getD_eq_getElem?_getD, h1, h2]
  have hready : ∀ (listed : Array Bool) (done : List Nat), listed.size = ops.size → (∀ j, j < ops.size → (listed.getD j true = true ↔ j ∈ done)) → (∀ (i : Nat) (o : Oper), ops[i]? = some o → ∀ e ∈ o.after, Region.binds .any e = true → listed.getD e.on false = true → e.on ∈ done) →
      ∀ i, i ∈ Region.ready .any ops listed → i ∈ rdyL A done := by
    intro listed done hsz hd he i hi
    obtain ⟨h0, o, ho, hall⟩ := mem_ready.1 hi
    have hin : i < ops.size := (Array.getElem?_eq_some_iff.1 ho).1
    rw [rdyL, List.mem_filter]
    refine ⟨by rw [List.mem_range]; omega, ?_⟩
    rw [Bool.and_eq_true]
    refine ⟨?_, ?_⟩
    · have : i ∉ done := fun hc => by rw [(hd i hin).2 hc] at h0; cases h0
      simpa using this
    · rw [hgetA i o ho, List.all_eq_true]
      intro j hj
      obtain ⟨e, he1, rfl⟩ := List.mem_map.1 hj
      obtain ⟨he2, he3⟩ := List.mem_filter.1 he1
      have := he i o ho e (by simpa using he2) he3 (hall e (by simpa using he2) he3)
      simpa using this
  have hback : ∀ (listed : Array Bool) (done : List Nat), listed.size = ops.size → (∀ j, j < ops.size → (listed.getD j true = true ↔ j ∈ done)) → ∀ (i : Nat) (o : Oper), ops[i]? = some o → ∀ e ∈ o.after, Region.binds .any e = true → listed.getD e.on false = true → e.on ∈ done := by
    intro listed done hsz hd i o ho e he hb hl
    have hlt : e.on < listed.size := by
      rcases Nat.lt_or_ge e.on listed.size with q | q
      · exact q
      · rw [Array.getD_eq_getD_getElem?, Array.getElem?_eq_none q] at hl
        cases hl
    refine (hd e.on (by omega)).1 ?_
    rw [Array.getD_eq_getD_getElem?, Array.getElem?_eq_getElem hlt] at hl ⊢
    exact hl
  induction fuel with
  | zero =>
    intro listed done a w s F B U hsz hlen hd hdn hr hUb hU h
    have hnil : unlisted ops.size listed = [] := List.eq_nil_of_length_eq_zero hlen
    refine ⟨?_, hQ _ a w F B U h (hr.nextTo _) hUb rfl⟩
    rw [List.eq_nil_iff_forall_not_mem]
    intro j hj
    obtain ⟨h0, o, ho, _⟩ := mem_ready.1 hj
    have : j ∈ unlisted ops.size listed := mem_unlisted.2 ⟨(Array.getElem?_eq_some_iff.1 ho).1, h0⟩
    rw [hnil] at this
    simp at this
  | succ fuel ih =>
    intro listed done a w s F B U hsz hlen hd hdn hr hUb hU h
    have hlenS : ∀ i, i < ops.size → listed.getD i true = false → (unlisted ops.size (listed.setIfInBounds i true)).length = fuel := by
      intro i hin h0
      have hsort : (unlisted ops.size listed).Pairwise (· < ·) := List.Pairwise.filter _ List.pairwise_lt_range
      have hmem : i ∈ unlisted ops.size listed := mem_unlisted.2 ⟨hin, h0⟩
      have hun : unlisted ops.size (listed.setIfInBounds i true) = (unlisted ops.size listed).erase i := by
        rw [List.Nodup.erase_eq_filter (hsort.imp (fun h => Nat.ne_of_lt h))]
        simp only [unlisted, List.filter_filter]
        refine List.filter_congr fun j hj => ?_
        by_cases e : j = i
        · subst e
          have hs : j < listed.size := by omega
          simp [Array.getD_eq_getD_getElem?, Array.getElem?_setIfInBounds, hs]
        · rw [getD_set_ne true (Ne.symm e)]
          simp [e]
      rw [hun, List.length_erase_of_mem hmem, hlen]; omega
    have hdS : ∀ i, i < ops.size → ∀ j, j < ops.size → ((listed.setIfInBounds i true).getD j true = true ↔ j ∈ i :: done) := by
      intro i hin j hj
      by_cases e : j = i
      · subst e
        have hs : j < listed.size := by omega
        simp [Array.getD_eq_getD_getElem?, Array.getElem?_setIfInBounds, hs]
      · rw [getD_set_ne true (Ne.symm e), hd j hj, List.mem_cons]
        exact ⟨.inr, fun h => h.resolve_left e⟩
    have hrdyB : ∀ i, i ∈ rdyL A done → i ∈ Region.ready .any ops listed ∧ i < ops.size ∧ listed.getD i true = false ∧ i ∉ done := by
      intro i hi
      rw [rdyL, List.mem_filter, List.mem_range, Bool.and_eq_true, List.all_eq_true] at hi
      obtain ⟨h1, h2, h3⟩ := hi
      have hin : i < ops.size := by omega
      have hnd : i ∉ done := by simpa using h2
      have h0 : listed.getD i true = false := by
        cases hc : listed.getD i true with
        | false => rfl
        | true => exact absurd ((hd i hin).1 hc) hnd
      refine ⟨mem_ready.2 ⟨h0, ops[i], Array.getElem?_eq_getElem hin, fun e he hb => ?_⟩, hin, h0, hnd⟩
      have hm : e.on ∈ done := by
        have := h3 e.on (by
          rw [hgetA i _ (Array.getElem?_eq_getElem hin)]
          exact List.mem_map.2 ⟨e, List.mem_filter.2 ⟨by simpa using he, hb⟩, rfl⟩)
        simpa using this
      rcases Nat.lt_or_ge e.on ops.size with q | q
      · have h4 := (hd e.on q).2 hm
        have hs : e.on < listed.size := by omega
        rw [Array.getD_eq_getD_getElem?, Array.getElem?_eq_getElem hs] at h4 ⊢
        exact h4
      · exact absurd (hdn _ hm) (by omega)
    rcases h with h | ⟨i, o, x, ho, htk, hx, hk⟩
    rotate_left
    · simp only [takeD, Bool.and_eq_true] at htk
      obtain ⟨⟨⟨⟨t1, t2⟩, t3⟩, t4⟩, t5⟩ := htk
      obtain ⟨g1, hin, h0, hnd⟩ := hrdyB i (by simpa using t1)
      have hr0 := hr.nextTo (base + i)
      obtain ⟨v, hv, hrep, hlo⟩ := still_run hT hr0 t3 hx
      have hfree : Region.free .any ops listed i = true := by
        simp only [Region.free, ho]
        simp only [freeD] at t4
        rw [List.all_eq_true] at t4 ⊢
        intro j hj
        have := t4 j hj
        rw [List.mem_range] at hj
        have hdj : done.contains j = listed.getD j true := by
          rw [Bool.eq_iff_iff, hd j hj]; simp
        rw [hdj] at this
        exact this
      have hg : o.guard = none := by simpa using t2
      refine wpAny_take ho t5 hfree (by simpa using g1) (fun c a w h => absurd h (hQp c _ w)) (v := v) (.inl ⟨by simp [Region.wanted, hg], hv⟩) ?_
      have h5 := hr0.put (dst := o.dst) hrep hlo
      refine ih _ (i :: done) _ w _ F B U (by simpa using hsz) (hlenS i hin h0) (hdS i hin) (fun j hj => (List.mem_cons.1 hj).elim (fun e => by rw [e]; exact hin) (hdn j)) (h5.nextTo _) hUb (fun k hk hkd => hU k hk (fun hc => hkd (List.mem_cons_of_mem _ hc))) hk
    obtain ⟨L, hL, hne, hall⟩ := h
    refine ⟨fun hnone => ?_, fun i hi => ?_⟩
    · exfalso
      obtain ⟨i, hi⟩ : ∃ i, i ∈ L := by
        cases L with
        | nil => exact absurd rfl hne
        | cons i L => exact ⟨i, List.mem_cons_self⟩
      rw [← hL, rdyL, List.mem_filter, List.mem_range, Bool.and_eq_true, List.all_eq_true] at hi
      obtain ⟨h1, h2, h3⟩ := hi
      have hin : i < ops.size := by omega
      have hir : i ∈ Region.ready .any ops listed := by
        refine mem_ready.2 ⟨?_, ops[i], Array.getElem?_eq_getElem hin, fun e he hb => ?_⟩
        · cases hc : listed.getD i true with
          | false => rfl
          | true => have := (hd i hin).1 hc; simp [this] at h2
        · have hm : e.on ∈ done := by
            have := h3 e.on (by
              rw [hgetA i _ (Array.getElem?_eq_getElem hin)]
              exact List.mem_map.2 ⟨e, List.mem_filter.2 ⟨by simpa using he, hb⟩, rfl⟩)
            simpa using this
          rcases Nat.lt_or_ge e.on ops.size with q | q
          · have h4 := (hd e.on q).2 hm
            have hs : e.on < listed.size := by omega
            rw [Array.getD_eq_getD_getElem?, Array.getElem?_eq_getElem hs] at h4 ⊢
            exact h4
          · exact absurd (hdn _ hm) (by omega)
      rw [hnone] at hir
      simp at hir
    · obtain ⟨h0, o, ho, _⟩ := mem_ready.1 hi
      have hin : i < ops.size := (Array.getElem?_eq_some_iff.1 ho).1
      have hiL : i ∈ L := hL ▸ hready listed done hsz hd (hback listed done hsz hd) i hi
      have hrun := allL_mem hall i hiL
      rw [ho] at hrun
      have hnd : i ∉ done := fun hc => by rw [(hd i hin).2 hc] at h0; cases h0
      have hni := hU i hin hnd
      have hlen' : (unlisted ops.size (listed.setIfInBounds i true)).length = fuel := by
        have hsort : (unlisted ops.size listed).Pairwise (· < ·) := List.Pairwise.filter _ List.pairwise_lt_range
        have hmem : i ∈ unlisted ops.size listed := mem_unlisted.2 ⟨hin, h0⟩
        have hun : unlisted ops.size (listed.setIfInBounds i true) = (unlisted ops.size listed).erase i := by
          rw [List.Nodup.erase_eq_filter (hsort.imp (fun h => Nat.ne_of_lt h))]
          simp only [unlisted, List.filter_filter]
          refine List.filter_congr fun j hj => ?_
          by_cases e : j = i
          · subst e
            have hs : j < listed.size := by omega
            simp [Array.getD_eq_getD_getElem?, Array.getElem?_setIfInBounds, hs]
          · rw [getD_set_ne true (Ne.symm e)]
            simp [e]
        rw [hun, List.length_erase_of_mem hmem, hlen]; omega
      have hd' : ∀ j, j < ops.size → ((listed.setIfInBounds i true).getD j true = true ↔ j ∈ i :: done) := by
        intro j hj
        by_cases e : j = i
        · subst e
          have hs : j < listed.size := by omega
          simp [Array.getD_eq_getD_getElem?, Array.getElem?_setIfInBounds, hs]
        · rw [getD_set_ne true (Ne.symm e), hd j hj, List.mem_cons]
          exact ⟨.inr, fun h => h.resolve_left e⟩
      have hnext : ∀ a' w' s1 F' B', RelB E s1 a' w' F' B' (fun l => U l ∨ l = base + i) → adraw P T ops A base fuel (i :: done) s1 K → wpAny P .any ops Q fuel (listed.setIfInBounds i true) a' w' := by
        intro a' w' s1 F' B' hr' h1
        refine ih _ (i :: done) a' w' s1 F' B' _ (by simpa using hsz) hlen' hd' (fun j hj => (List.mem_cons.1 hj).elim (fun e => by rw [e]; exact hin) (hdn j)) hr' ?_ ?_ h1
        · rintro l (hl | rfl)
          · exact hUb l hl
          · omega
        · intro k hk hkd hc
          rw [List.mem_cons, not_or] at hkd
          rcases hc with hc | hc
          · exact hU k hk hkd.2 hc
          · omega
      unfold wpOp
      simp only [ho]
      have hr0 := hr.nextTo (base + i)
      have hgo : ∀ {K' : AV → AState → Prop}, aop false P T { s with next := base + i } (base + i) o K' → (∀ x s', K' x s' → adraw P T ops A base fuel (i :: done) ((s'.put o.dst x).bump) K) → o.wp P a w (wpAny P .any ops Q fuel (listed.setIfInBounds i true)) Q ∨ (o.asks P a w ∧ LetsOut Q) := by
        intro K' hop hk
        refine .inl (aop_sound hT hr0 hni hop ?_)
        intro x' s' v w' F' B' h1 h2 h3 h4
        have h5 := h2.put (dst := o.dst) h3 h4
        exact hnext _ w' _ F' B' (h5.nextTo _) (hk x' s' h1)
      unfold arun1 arun at hrun
      simp only at hrun
      cases hg : o.guard with
      | none =>
        simp only [hg] at hrun
        have hw : wantedA ops s o = some true := by simp [wantedA, hg]
        rw [if_pos (wanted_eq hr hw)]
        exact hgo hrun (fun x s' h => h)
      | some g =>
        obtain ⟨j, want⟩ := g
        simp only [hg] at hrun
        have hsame : ayield ops { s with next := base + i } j = ayield ops s j := rfl
        rw [hsame] at hrun
        cases hy : ayield ops s j with
        | none => rw [hy] at hrun; exact hrun.elim
        | some b =>
          rw [hy] at hrun
          simp only at hrun
          by_cases hb : b = some want
          · rw [if_pos hb] at hrun
            have hw : wantedA ops s o = some true := by simp [wantedA, hg, hy, hb]
            rw [if_pos (wanted_eq hr hw)]
            exact hgo hrun (fun x s' h => h)
          · rw [if_neg hb] at hrun
            have hw : wantedA ops s o = some false := by simp [wantedA, hg, hy, hb]
            rw [if_neg (by rw [wanted_eq hr hw]; simp)]
            exact hnext _ w (({ s with next := base + i } : AState).put o.dst (.tup [])).bump F B (((hr0.put (dst := o.dst) (v := undef) gone_rep gone_lo).more (base + i)).nextTo _) hrun
/-- EVERY ORDER comes to one state. -/
theorem AWP.dag (hT : Tab.ok P T = true) (hm : P.follows .mixedOrders = true) {A : List (List Nat)} (hA : aftOf ops = A) {id : Nat} {sf : AState} {Q : APost} (h : adraw P T ops A s.next ops.size [] s (fun s' => s' = sf)) (h2 : Q .normal sf) : AWP P E (.region id ops true) Q s := by
  rintro a w ⟨F, B, U, hr, hU⟩
  have hrep : ∀ i, i < ops.size → (Array.replicate ops.size false).getD i true = false := by
    intro i hi
    simp [Array.getD_eq_getD_getElem?, Array.getElem?_replicate, hi]
  have hun : unlisted ops.size (Array.replicate ops.size false) = List.range ops.size := by
    rw [unlisted, List.filter_eq_self]
    intro i hi
    rw [hrep i (List.mem_range.1 hi)]
    rfl
  refine wp_mono (Q := fun e a' w' => e = .normal ∧ ∃ s', Q e s' ∧ Rel E s' a' w') ?_ (fun e a w h => h.2)
  refine wp_region_any hm (adraw_sound hT hA (base := s.next) (K := fun s' => s' = sf) (Q := fun e a' w' => e = .normal ∧ ∃ s', Q e s' ∧ Rel E s' a' w') ?_ (fun c a w h => by cases h.1) ops.size _ [] a _ s F B U (by simp) (by rw [hun]; simp) ?_ (by simp) hr.drew (fun l hl => by have := hU l hl; omega) (fun k hk _ hc => by have := hU _ hc; omega) h)
  · rintro s' a' w' F' B' U' rfl hr' hU' hn
    exact ⟨rfl, _, h2, F', B', U', hr', fun l hl => by have := hU' l hl; omega⟩
  · intro j hj
    rw [hrep j hj]
    simp
def SameS (tm : List AV) (ob : Nat → Option AObj) (nx : Nat) (s : AState) : Prop := s.tmps = tm ∧ s.objs = ob ∧ s.next = nx
/-- The same, as a walk's step. -/
theorem z30 {t : List AV} {o0 : Nat → Option AObj} {n0 : Nat} (hT : Tab.ok P T = true) (hm : P.follows .mixedOrders = true) {A : List (List Nat)} {N : Nat} {id : Nat} {tm : List AV} {ob : Nat → Option AObj} {Q : APost} (hA : aftOf ops = A) (hN : ops.size = N) (h : adraw P T ops A n0 N [] ⟨t, o0, n0⟩ (SameS tm ob (n0 + N))) (h2 : Q .normal ⟨tm, ob, n0 + N⟩) : vc P T E (.region id ops true) Q ⟨t, o0, n0⟩ := by
  subst hN
  refine AWP.dag hT hm hA (sf := ⟨tm, ob, n0 + ops.size⟩) ?_ h2
  have e : (SameS tm ob (n0 + ops.size)) = fun s' => s' = ⟨tm, ob, n0 + ops.size⟩ := by
    funext s'
    obtain ⟨a, b, c⟩ := s'
    simp [SameS]
  rwa [e] at h
def nthO : List Oper → Nat → Option Oper
  | [], _ => none
  | o :: _, 0 => some o
  | _ :: l, n + 1 => nthO l n
theorem nthO_eq : ∀ (l : List Oper) (i : Nat), nthO l i = l[i]?
  | [], _ => by simp [nthO]
  | _ :: _, 0 => by simp [nthO]
  | _ :: l, n + 1 => by simp [nthO, nthO_eq l n]
theorem adraw_s {A : List (List Nat)} {base n : Nat} {done : List Nat} {t : List AV} {ob : Nat → Option AObj} {nx : Nat} {K : AState → Prop} (h : ∃ L, rdyL A done = L ∧ L.isEmpty = false ∧ allL L fun i => arun1 P T ops ⟨t, ob, base + i⟩ (fun s' => adraw P T ops A base n (i :: done) s' K) ops[i]?) : adraw P T ops A base (n + 1) done ⟨t, ob, nx⟩ K := by
  obtain ⟨L, h1, h2, h3⟩ := h
  exact .inl ⟨L, h1, fun e => by simp [e] at h2, h3⟩
/-- One that meets none of the others is taken at once. -/
theorem adraw_t {A : List (List Nat)} {base n : Nat} {done : List Nat} {t : List AV} {ob : Nat → Option AObj} {nx : Nat} {K : AState → Prop} (i : Nat) {o : Oper} {x : AV} (ho : nthO ops.toList i = some o) (ht : takeD ops A done i o = true) (hx : apure T ⟨t, ob, base + i⟩ o.op = some x) (h : adraw P T ops A base n (i :: done) ((AState.put ⟨t, ob, base + i⟩ o.dst x).bump) K) : adraw P T ops A base (n + 1) done ⟨t, ob, nx⟩ K :=
  .inr ⟨i, o, x, by rw [nthO_eq] at ho; simpa using ho, ht, hx, h⟩
theorem adraw_z {A : List (List Nat)} {base : Nat} {done : List Nat} {t : List AV} {ob ob' : Nat → Option AObj} {tm : List AV} {nx nx' : Nat} (h1 : t = tm) (h2 : ob = ob') (h3 : base + ops.size = nx') : adraw P T ops A base 0 done ⟨t, ob, nx⟩ (SameS tm ob' nx') := ⟨h1, h2, h3⟩
theorem arun1_i {i : Nat} {o : Oper} {K : AState → Prop} (h : nthO ops.toList i = some o) (h2 : arun false P T ops [o] s K) : arun1 P T ops s K ops[i]? := by
  have h : ops[i]? = some o := by rw [nthO_eq] at h; simpa using h
  rw [h]; exact h2
theorem allL_c {i : Nat} {L : List Nat} {p : Nat → Prop} (h1 : p i) (h2 : allL L p) : allL (i :: L) p := ⟨h1, h2⟩
theorem allL_n {p : Nat → Prop} : allL [] p := trivial
theorem upd_swap (f : Nat → Option AObj) (a b : Nat) (x y : Option AObj) (h : b < a) : upd (upd f a x) b y = upd (upd f b y) a x := by
  funext k
  unfold upd
  by_cases h1 : k = a
  · subst h1
    rw [if_neg (by omega), if_pos rfl, if_pos rfl]
  · by_cases h2 : k = b
    · subst h2; rw [if_pos rfl, if_neg h1, if_pos rfl]
    · rw [if_neg h2, if_neg h1, if_neg h1, if_neg h2]
end
end Go.Proofs.Ytnnpjblpiecfdaa.Fw
