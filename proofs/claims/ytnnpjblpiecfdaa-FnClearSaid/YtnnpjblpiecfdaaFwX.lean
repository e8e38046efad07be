/- Every order of a region that draws. -/
import Derived.Test.YtnnpjblpiecfdaaFwV
namespace Go.Proofs.Ytnnpjblpiecfdaa.Fw
open Go.RowKit
set_option linter.unusedVariables false
set_option linter.unusedSimpArgs false

section
variable {P : Program} {T : Tab} {E : Entry} {s t : AState} {a : Act} {w : World} {F : Nat → Prop} {B : Beta} {U : Nat → Prop} {ops : Array Oper} {base : Nat}

theorem wp_ex {o : Oper} {next : Act → World → Prop} (h : o.wp P a w next (fun _ _ _ => False)) : ∃ a' w', next a' w' := by
  unfold Oper.wp at h
  generalize (execOp a.eval o).run P w = r at h
  cases r with
  | ok n w' =>
    cases n <;> simp only [Oper.upon] at h
    case value v => exact ⟨_, _, h⟩
    case skip => exact ⟨_, _, h⟩
    case defer d => exact ⟨_, _, h⟩
    case enter f args =>
      obtain ⟨e, w'', fr, hR, _⟩ := h []
      cases e with
      | returned v => exact ⟨_, _, hR⟩
      | panicked c => exact hR.elim
      | outgrown => obtain ⟨_, _, hx⟩ := hR; exact hx.elim
    case row row args =>
      obtain ⟨v, w'', hR, _⟩ := h default []
      exact ⟨_, _, hR⟩
  | halt x w' => cases x <;> simp only [Oper.upon] at h

/-- A step of the abstract machine keeps to the states that some world has. -/
theorem step_good (hT : Tab.ok P T = true) {i : Nat} {s s1 : AState} (h : DStep P T ops base i s s1) (hr : RelB E s a w F B U) (hn : ¬ U (base + i)) : ∃ a' w' F' B', RelB E s1 a' w' F' B' (fun l => U l ∨ l = base + i) := by
  obtain ⟨o, ho, ⟨_, x, e, hq, rfl⟩ | ⟨_, rfl⟩⟩ := h
  · have hop := hq.aop (K := fun x' s' => x' = x ∧ s' = s.eff (base + i) e) ⟨rfl, rfl⟩
    have hwp := aop_sound hT hr hn hop (next := fun a' w' => ∃ F' B', RelB E ((s.eff (base + i) e).put o.dst x) a' w' F' B' (fun l => U l ∨ l = base + i)) (Q := fun _ _ _ => False) (by
      rintro x' s' v w' F' B' ⟨rfl, rfl⟩ h1 h2 h3
      exact ⟨F', B', h1.put h2 h3⟩)
    obtain ⟨a', w', F', B', h1⟩ := wp_ex hwp
    exact ⟨a', w', F', B', h1⟩
  · exact ⟨_, w, F, B, ((hr.put (dst := o.dst) (v := undef) gone_rep gone_lo).more (base + i))⟩

theorem front (hT : Tab.ok P T = true) {i : Nat} {oi : Oper} (hi : ops[i]? = some oi) : ∀ (L : List Nat) {s sf : AState} {a : Act} {w : World} {F : Nat → Prop} {B : Beta} {U : Nat → Prop}, RelB E s a w F B U → (∀ k ∈ L, ¬ U (base + k)) → L.Pairwise (· < ·) → DRun P T ops base L s sf → i ∈ L →
    (∀ k ∈ L, k < i → ∀ ok, ops[k]? = some ok → ok.apart ops oi = true) → ∃ s1, DStep P T ops base i s s1 ∧ DRun P T ops base (L.erase i) s1 sf
  | [], _, _, _, _, _, _, _, _, _, _, _, hm, _ => by simp at hm
  | k :: L, s, sf, a, w, F, B, U, hr, hU, hp, hrun, hm, hap => by
    obtain ⟨s2, h1, h2⟩ := hrun
    by_cases hki : k = i
    · subst hki
      exact ⟨s2, h1, by simpa using h2⟩
    · have hm' : i ∈ L := by
        rcases List.mem_cons.1 hm with e | e
        · exact absurd e.symm hki
        · exact e
      have hp' := List.pairwise_cons.1 hp
      have hlt : k < i := hp'.1 i hm'
      have hnk : ¬ U (base + k) := hU k List.mem_cons_self
      obtain ⟨a', w', F', B', hr2⟩ := step_good hT h1 hr hnk
      obtain ⟨s3, h3, h4⟩ := front hT hi L hr2 (fun j hj hc => by
        rcases hc with hc | hc
        · exact hU j (List.mem_cons_of_mem _ hj) hc
        · have := hp'.1 j hj
          omega) hp'.2 h2 hm' (fun j hj => hap j (List.mem_cons_of_mem _ hj))
      obtain ⟨ok, hok, _⟩ := id h1
      obtain ⟨s1', h5, h6⟩ := swap hok hi (hap k List.mem_cons_self hlt ok hok) hki hr hnk (hU i hm) h1 h3
      refine ⟨s1', h5, ?_⟩
      rw [List.erase_cons_tail (by simpa using hki)]
      exact ⟨s3, h6, h4⟩

theorem okDraw_spec {M : List Nat} (h : okDraw ops M = true) : ∀ (i : Nat) o, ops[i]? = some o → quietKind o.op = true ∧ (∀ e ∈ o.after, Region.binds .any e = true → e.on < i) ∧
    (∀ k, k < ops.size → (M.getD i 0).testBit k = true → ∃ e ∈ o.after, Region.binds .any e = true ∧ (e.on = k ∨ (M.getD e.on 0).testBit k = true)) ∧
    (∀ k ok, k < i → ops[k]? = some ok → (M.getD i 0).testBit k = true ∨ ok.apart ops o = true) := by
  intro i o ho
  have hi : i < ops.size := (Array.getElem?_eq_some_iff.1 ho).1
  have h1 := List.all_eq_true.1 h i (List.mem_range.2 hi)
  simp only [ho, Bool.and_eq_true] at h1
  obtain ⟨⟨h2, h3⟩, h4⟩ := h1
  refine ⟨h2, fun e he hb => ?_, fun k hk hb => ?_, fun k ok hk hok => ?_⟩
  · have := List.all_eq_true.1 h3 e (by simpa using he)
    simpa [hb] using this
  · have := List.all_eq_true.1 h4 k (List.mem_range.2 hk)
    simp only [okOne, Bool.and_eq_true] at this
    have h5 := this.1
    rw [hb] at h5
    simp only [Bool.not_true, Bool.false_or, List.any_eq_true] at h5
    obtain ⟨e, he, h6⟩ := h5
    simp only [Bool.and_eq_true, Bool.or_eq_true, beq_iff_eq] at h6
    exact ⟨e, by simpa using he, h6.1, h6.2⟩
  · have hks : k < ops.size := by omega
    have := List.all_eq_true.1 h4 k (List.mem_range.2 hks)
    simp only [okOne, Bool.and_eq_true] at this
    have h5 := this.2
    simp only [hok, hk, decide_true, Bool.not_true, Bool.false_or, Bool.or_eq_true] at h5
    exact h5

theorem wanted_eq (hr : RelB E s a w F B U) {o : Oper} {b : Bool} (h : wantedA ops s o = some b) : Region.wanted o (yielded ops a.tmps) = b := by
  unfold wantedA at h
  unfold Region.wanted
  split at h
  · rename_i hg
    cases h
    rw [hg]
  · rename_i j want hg
    simp only [Option.map_eq_some_iff] at h
    obtain ⟨b', h1, rfl⟩ := h
    rw [hg]
    simp only [put_getD hr h1]

def unlisted (n : Nat) (listed : Array Bool) : List Nat := (List.range n).filter fun i => !listed.getD i true

theorem mem_unlisted {n i : Nat} {listed : Array Bool} : i ∈ unlisted n listed ↔ i < n ∧ listed.getD i true = false := by simp [unlisted]

theorem any_sound (hT : Tab.ok P T = true) {M : List Nat} (hok : okDraw ops M = true) {Q : Exit → Act → World → Prop} {sf : AState} (hQ : ∀ a w F B U, RelB E sf a w F B U → (∀ l, U l → l < base + ops.size) → Q .normal a w) :
    ∀ (fuel : Nat) (listed : Array Bool) (a : Act) (w : World) (s : AState) (F : Nat → Prop) (B : Beta) (U : Nat → Prop), listed.size = ops.size → (unlisted ops.size listed).length = fuel → RelB E s a w F B U → (∀ l, U l → l < base + ops.size) → (∀ k ∈ unlisted ops.size listed, ¬ U (base + k)) →
      (∀ j o, ops[j]? = some o → listed.getD j true = true → ∀ e ∈ o.after, Region.binds .any e = true → listed.getD e.on false = true) → DRun P T ops base (unlisted ops.size listed) s sf → wpAny P .any ops Q fuel listed a w := by
  have hspec := okDraw_spec hok
  intro fuel
  induction fuel with
  | zero =>
    intro listed a w s F B U hsz hlen hr hUb hU hdown hrun
    have hnil : unlisted ops.size listed = [] := List.eq_nil_of_length_eq_zero hlen
    rw [hnil] at hrun
    cases hrun
    refine ⟨?_, hQ a w F B U hr hUb⟩
    rw [List.eq_nil_iff_forall_not_mem]
    intro j hj
    obtain ⟨h0, o, ho, _⟩ := mem_ready.1 hj
    have : j ∈ unlisted ops.size listed := mem_unlisted.2 ⟨(Array.getElem?_eq_some_iff.1 ho).1, h0⟩
    rw [hnil] at this
    simp at this
  | succ fuel ih =>
    intro listed a w s F B U hsz hlen hr hUb hU hdown hrun
    have hsort : (unlisted ops.size listed).Pairwise (· < ·) := List.Pairwise.filter _ List.pairwise_lt_range
    refine ⟨fun hnone => ?_, fun i hi => ?_⟩
    · -- the least one that has not come up may come up
      obtain ⟨j, L, hjL⟩ : ∃ j L, unlisted ops.size listed = j :: L := by
        cases h : unlisted ops.size listed with
        | nil => rw [h] at hlen; simp at hlen
        | cons j L => exact ⟨j, L, rfl⟩
      have hj := mem_unlisted.1 (hjL ▸ List.mem_cons_self : j ∈ unlisted ops.size listed)
      have hr' : j ∈ Region.ready .any ops listed := by
        refine mem_ready.2 ⟨hj.2, ops[j], Array.getElem?_eq_getElem hj.1, fun e he hb => ?_⟩
        have hlt := (hspec j _ (Array.getElem?_eq_getElem hj.1)).2.1 e he hb
        by_cases hx : listed.getD e.on true = false
        · have hm : e.on ∈ unlisted ops.size listed := mem_unlisted.2 ⟨by omega, hx⟩
          rw [hjL] at hm hsort
          rcases List.mem_cons.1 hm with q | q
          · omega
          · have := (List.pairwise_cons.1 hsort).1 _ q; omega
        · have hs : e.on < listed.size := by omega
          simp only [Array.getD_eq_getD_getElem?, Array.getElem?_eq_getElem hs, Option.getD_some] at hx ⊢
          simpa using hx
      rw [hnone] at hr'
      simp at hr'
    · obtain ⟨h0, o, ho, hall⟩ := mem_ready.1 hi
      have hin : i < ops.size := (Array.getElem?_eq_some_iff.1 ho).1
      have hmem : i ∈ unlisted ops.size listed := mem_unlisted.2 ⟨hin, h0⟩
      -- all that must have come before has come
      have hanc : ∀ (n j : Nat) oj, j < n → ops[j]? = some oj → (∀ e ∈ oj.after, Region.binds .any e = true → listed.getD e.on false = true) → ∀ k, k < ops.size → (M.getD j 0).testBit k = true → listed.getD k false = true := by
        intro n
        induction n with
        | zero => intro j oj hj; omega
        | succ n ihn =>
          intro j oj hj hoj hl k hk hb
          obtain ⟨e, he, hbe, h1⟩ := (hspec j oj hoj).2.2.1 k hk hb
          have hle := hl e he hbe
          rcases h1 with rfl | h1
          · exact hle
          · have hlt := (hspec j oj hoj).2.1 e he hbe
            have hjs : j < ops.size := (Array.getElem?_eq_some_iff.1 hoj).1
            have heo : ops[e.on]? = some ops[e.on] := Array.getElem?_eq_getElem (by omega)
            refine ihn e.on _ (by omega) heo (hdown e.on _ heo ?_) k hk h1
            have hs : e.on < listed.size := by omega
            simp only [Array.getD_eq_getD_getElem?, Array.getElem?_eq_getElem hs, Option.getD_some] at hle ⊢
            exact hle
      have hap : ∀ k ∈ unlisted ops.size listed, k < i → ∀ ok, ops[k]? = some ok → ok.apart ops o = true := by
        intro k hk hlt ok hok'
        rcases (hspec i o ho).2.2.2 k ok hlt hok' with h1 | h1
        · have h2 := hanc (i + 1) i o (by omega) ho hall k (by omega) h1
          have h3 := (mem_unlisted.1 hk).2
          have hs : k < listed.size := by omega
          simp only [Array.getD_eq_getD_getElem?, Array.getElem?_eq_getElem hs, Option.getD_some] at h2 h3
          rw [h2] at h3
          cases h3
        · exact h1
      obtain ⟨s1, hst, hrest⟩ := front hT ho _ hr hU hsort hrun hmem hap
      have hni := hU i hmem
      have hun : unlisted ops.size (listed.setIfInBounds i true) = (unlisted ops.size listed).erase i := by
        rw [List.Nodup.erase_eq_filter (hsort.imp (fun h => Nat.ne_of_lt h))]
        simp only [unlisted, List.filter_filter]
        refine List.filter_congr fun j hj => ?_
        by_cases e : j = i
        · subst e
          have hs : j < listed.size := by omega
          simp [Array.getD_eq_getD_getElem?, Array.getElem?_setIfInBounds, hs]
        · rw [getD_set_ne true (Ne.symm e)]
          simp [e]
      have hnext : ∀ a' w' F' B', RelB E s1 a' w' F' B' (fun l => U l ∨ l = base + i) → wpAny P .any ops Q fuel (listed.setIfInBounds i true) a' w' := by
        intro a' w' F' B' hr'
        refine ih _ a' w' s1 F' B' _ (by simpa using hsz) ?_ hr' ?_ ?_ ?_ (by rw [hun]; exact hrest)
        · rw [hun, List.length_erase_of_mem hmem, hlen]; omega
        · rintro l (hl | rfl)
          · exact hUb l hl
          · omega
        · intro k hk hc
          rw [hun] at hk
          rcases hc with hc | hc
          · exact hU k (List.mem_of_mem_erase hk) hc
          · have hki : k = i := by omega
            subst hki
            have hnd : (unlisted ops.size listed).Nodup := hsort.imp (fun h => Nat.ne_of_lt h)
            exact (hnd.mem_erase_iff.1 hk).1 rfl
        · intro j oj hoj hl e he hb
          refine getD_set_true ?_
          by_cases hji : j = i
          · subst hji
            rw [ho] at hoj
            cases hoj
            exact hall e he hb
          · rw [getD_set_ne true (Ne.symm hji)] at hl
            exact hdown j oj hoj hl e he hb
      obtain ⟨o', ho', hst⟩ := hst
      rw [ho] at ho'
      cases ho'
      unfold wpOp
      simp only [ho]
      rcases hst with ⟨hw, x, e, hq, rfl⟩ | ⟨hw, rfl⟩
      · rw [if_pos (wanted_eq hr hw)]
        refine .inl (aop_sound hT hr hni (hq.aop (K := fun x' s' => x' = x ∧ s' = s.eff (base + i) e) ⟨rfl, rfl⟩) ?_)
        rintro x' s' v w' F' B' ⟨rfl, rfl⟩ h1 h2 h3
        exact hnext _ w' F' B' (h1.put h2 h3)
      · rw [if_neg (by rw [wanted_eq hr hw]; simp)]
        exact hnext _ w F B ((hr.put (dst := o.dst) (v := undef) gone_rep gone_lo).more (base + i))

/-- A REGION THAT DRAWS ITS ORDER: the text's order stands for all. -/
theorem AWP.draw (hT : Tab.ok P T = true) (hm : P.follows .mixedOrders = true) {M : List Nat} {id : Nat} (hok : okDraw ops M = true) {Q : APost} (h : arun true P T ops ops.toList s (Q .normal)) : AWP P E (.region id ops true) Q s := by
  rintro a w ⟨F, B, U, hr, hU⟩
  have hs : s = { s with next := s.next + 0 } := rfl
  rw [hs] at h
  obtain ⟨sf, h1, h2⟩ := DRun_of_arun (base := s.next) (fun i o ho => (okDraw_spec hok i o ho).1) ops.toList 0 s (fun j => by simp) h
  have hrep : ∀ i, i < ops.size → (Array.replicate ops.size false).getD i true = false := by
    intro i hi
    simp [Array.getD_eq_getD_getElem?, Array.getElem?_replicate, hi]
  have hun : unlisted ops.size (Array.replicate ops.size false) = List.range' 0 ops.toList.length := by
    rw [Array.length_toList, ← List.range_eq_range', unlisted, List.filter_eq_self]
    intro i hi
    rw [hrep i (List.mem_range.1 hi)]
    rfl
  refine wp_region_any hm (any_sound hT (base := s.next) hok (sf := sf) (Q := fun e a' w' => ∃ s', Q e s' ∧ Rel E s' a' w') ?_ ops.size _ a _ s F B U (by simp) (by rw [hun]; simp) hr.drew (fun l hl => by have := hU l hl; omega) (fun k hk hc => by have := hU _ hc; omega) ?_ (by rw [hun]; exact h1))
  · intro a' w' F' B' U' hr' hU'
    refine ⟨_, h2, F', B', U', { hr' with tmps := hr'.tmps }, fun l hl => ?_⟩
    have := hU' l hl
    simpa using this
  · intro j o ho hl
    rw [hrep j (Array.getElem?_eq_some_iff.1 ho).1] at hl
    cases hl

end
end Go.Proofs.Ytnnpjblpiecfdaa.Fw
