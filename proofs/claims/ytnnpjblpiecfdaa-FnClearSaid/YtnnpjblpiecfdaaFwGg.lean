/- Contracts that are told of the world as it lies become contracts of this frame. No condition. -/
import Derived.Test.YtnnpjblpiecfdaaFwGf
namespace Go.Proofs.Ytnnpjblpiecfdaa.Fw
open Go Go.Proofs Go.RowKit
set_option linter.unusedVariables false
set_option linter.unusedSimpArgs false
/-- A function that hands back a plain value and lets what lies below stand. -/
theorem Ret.below {P : Program} {f : FuncId} (hE : Enters P f) {args : List AV} (hlo : ∀ x ∈ args, x.lo (fun _ => False)) {v : Value} (hv : atomic v = true)
    (h : ∀ (w : World) (S : Nat → Prop) (vs : List Value), (∀ b, S b → b < w.heap.size) → LD w S → Vals w S vs args → Calls P f vs.toArray w fun e w' => e = .returned v ∧ Below w.heap.size w w') :
    Ret P f none args [] (.c (.v v)) := by
  refine ⟨hE, hlo, fun w S p l vs hS hld hio hvs => ?_⟩
  obtain rfl : l = [] := hio
  rw [List.nil_append]
  refine (h w S vs hS hld hvs).mono ?_
  rintro e w' ⟨rfl, hb⟩
  exact ⟨v, S, rfl, ⟨fun b hb => .inl hb, fun b hs => by have := hS b hs; have := hb.size; omega, .v hv, trivial, fun b hlt _ => hb.block b hlt, hb.size, hb.os, hb.tape, hb.output⟩⟩
/-- A pointer to the first cells of a variable's part. -/
theorem cellW_refT (m : Nat) {s : AState} {k l off t : Nat} {cells : List AV} {zs : List CV} (ho : s.objs l = some (.box t cells)) (h : cellsW s k (cells.drop off) zs) : cellW s (k + 1) (.ref l off) (.rp (zs.take m)) := by
  obtain ⟨vs, g1, g2⟩ := h
  refine ⟨.rp vs, by simp only [snap1, ho, g1], fun hr => ?_⟩
  have hr := CWk.rp g2 hr
  cases hr with
  | rp f h1 h2 =>
    refine .rp f (fun j y hy => h1 j y ?_) (fun j y hy => h2 j y ?_)
    all_goals (rw [List.getElem?_take] at hy; split at hy; exact hy; cases hy)
/-- The same for a result of whatever kind. -/
theorem Ret.belowR {P : Program} {f : FuncId} (hE : Enters P f) {args : List AV} (hlo : ∀ x ∈ args, x.lo (fun _ => False)) {r : RV}
    (h : ∀ (w : World) (S : Nat → Prop) (vs : List Value), (∀ b, S b → b < w.heap.size) → LD w S → Vals w S vs args → Calls P f vs.toArray w fun e w' => ∃ v, e = .returned v ∧ Below w.heap.size w w' ∧ RRep w' S w.heap.size v r) :
    Ret P f none args [] r := by
  refine ⟨hE, hlo, fun w S p l vs hS hld hio hvs => ?_⟩
  obtain rfl : l = [] := hio
  rw [List.nil_append]
  refine (h w S vs hS hld hvs).mono ?_
  rintro e w' ⟨v, rfl, hb, hr⟩
  exact ⟨v, S, rfl, ⟨fun b hb => .inl hb, fun b hs => by have := hS b hs; have := hb.size; omega, hr, trivial, fun b hlt _ => hb.block b hlt, hb.size, hb.os, hb.tape, hb.output⟩⟩
theorem vals_one {w : World} {S : Nat → Prop} {x : AV} {vs : List Value} (h : Vals w S vs [x]) : ∃ v, vs = [v] ∧ ARep w S noB v x := by
  obtain ⟨hl, hv⟩ := h
  match vs, hl with
  | [v], _ => exact ⟨v, rfl, hv 0 _ v rfl rfl⟩
theorem vals_two {w : World} {S : Nat → Prop} {x y : AV} {vs : List Value} (h : Vals w S vs [x, y]) : ∃ u v, vs = [u, v] ∧ ARep w S noB u x ∧ ARep w S noB v y := by
  obtain ⟨hl, hv⟩ := h
  match vs, hl with
  | [u, v], _ => exact ⟨u, v, rfl, hv 0 _ u rfl rfl, hv 1 _ v rfl rfl⟩
theorem arep_v {w : World} {S : Nat → Prop} {u v : Value} (h : ARep w S noB u (.c (.v v))) : u = v := by
  cases h with | c h => cases h; rfl
/-- A list of texts as it lies in memory. -/
theorem arep_texts {w : World} {S : Nat → Prop} (hS : ∀ b, S b → b < w.heap.size) {u : Value} {nl full : Bool} {xs : List ByteArray} (h : ARep w S noB u (.c (.sl nl full 1 (mapR rS xs)))) :
    (xs = [] ∧ ∃ a c, u = .slice a 0 c) ∨ (∃ bk o c, u = .slice (some ⟨bk, o, none⟩) xs.length c ∧ xs.length ≤ c ∧ bk < w.heap.size ∧ ∀ (j : Nat) x, xs[j]? = some x → w.cell? ⟨bk, o + j, none⟩ = some (.string x)) := by
  cases h with | c h =>
  generalize hr : mapR rS xs = rows at h
  cases h with
  | nil =>
    have : xs = [] := by simpa [mapR] using hr
    exact .inl ⟨this, none, 0, rfl⟩
  | @sl _ _ _ _ a n cap f hn hc _ hcell hrep =>
    subst hr
    have hlen : n = xs.length := by rw [hn]; exact mapR_len rS xs
    subst hlen
    by_cases h0 : xs = []
    · subst h0
      exact .inl ⟨rfl, some a, cap, rfl⟩
    · right
      have get : ∀ (j : Nat) x, xs[j]? = some x → S a.block ∧ w.cell? (a.add j) = some (.string x) := fun j x hx => by
        have hrow : (mapR rS xs)[j]? = some (rS x) := by simp [mapR, hx]
        obtain ⟨h1, h2⟩ := hcell j _ hrow 0 (.v (.string x)) rfl
        have h3 := hrep j _ hrow 0 (.v (.string x)) rfl
        have h4 : f j 0 = .string x := by generalize f j 0 = y at h3; cases h3; rfl
        rw [h4] at h2
        exact ⟨h1, by simpa using h2⟩
      obtain ⟨x0, hx0⟩ : ∃ x0, xs[0]? = some x0 := by
        match xs, h0 with
        | x :: _, _ => exact ⟨x, rfl⟩
      obtain ⟨g1, g2⟩ := get 0 x0 hx0
      have hspot : a.spot = none := by
        have : a.add 0 = a := by simp [Addr.add]
        rw [this] at g2
        unfold World.cell? at g2
        split at g2
        · split at g2
          · cases g2
          · rename_i hs
            simpa using hs
        · cases g2
      obtain ⟨bk, o, sp⟩ := a
      simp only at hspot g1
      subst hspot
      refine ⟨bk, o, cap, rfl, ?_, hS bk g1, fun j x hx => ?_⟩
      · have := hc; rw [mapR_len] at this; exact this
      · have := (get j x hx).2
        unfold Addr.add at this
        split at this
        · rename_i hj; subst hj; exact this
        · exact this
theorem z31 {P : Program} {T : Tab} {E : Entry} {Q : APost} {s : AState} {a b : Code} {t : Bool} (h : t = true) (hk : vc P T E a Q s) : Cnd P T E a b Q s (.c (.v (.bool t))) := by subst h; rw [Cnd_true]; exact hk
theorem z32 {P : Program} {T : Tab} {E : Entry} {Q : APost} {s : AState} {a b : Code} {t : Bool} (h : t = false) (hk : vc P T E b Q s) : Cnd P T E a b Q s (.c (.v (.bool t))) := by subst h; rw [Cnd_false]; exact hk
theorem lenS {α β : Type} {a : List α} {b : List β} (h : a.length = b.length) : b.length = a.length := h.symm
theorem bqtt : (true == true) = true := _root_.id rfl
theorem bqtf : (true == false) = false := _root_.id rfl
theorem bqft : (false == true) = false := _root_.id rfl
theorem bqff : (false == false) = true := _root_.id rfl
attribute [push_cast] bqtt bqtf bqft bqff
section
variable {P : Program} {T : Tab} {E : Entry} {Q : APost} {s sJ : AState} {x y : Code}
/-- Ways that part and meet again: what follows is walked once, out of a state that tells less. -/
theorem AWP.cut {p : Prop} (h1 : AWP P E x (athen (fun s1 => p ∧ Wk s1 sJ) Q) s) (h2 : p → AWP P E y Q sJ) : AWP P E (.seq x y) Q s := by
  refine AWP.seq (AWP.mono h1 fun e s1 h => ?_)
  cases e with
  | normal => exact fun a w hr => h2 h.1 a w (h.2 E a w hr)
  | _ => exact h
end
/-- A choice and what follows it, in a law. -/
theorem jnC {V : Type} {X : Option (V ⊕ Bool)} {f : V → Option Bool} (h : jn X f = some true) : ∃ e, X = some e ∧ (∀ r', e = Sum.inr r' → r' = true) ∧ (∀ v, e = Sum.inl v → f v = some true) := by
  cases X with
  | none => cases h
  | some e =>
    refine ⟨e, rfl, fun r' he => ?_, fun v he => ?_⟩
    · subst he; exact Option.some.inj h
    · subst he; exact h
theorem AWP.cutF {P : Program} {E : Entry} {Q : APost} {x y : Code} {t : List AV} {ob : Nat → Option AObj} {n : Nat} {V R : Type} (F : List AV → (Nat → Option AObj) → V → List (Nat × AV)) (O : List AV → (Nat → Option AObj) → V → List (Nat × Option AObj)) {X : Option (V ⊕ R)} {e : V ⊕ R} (he : X = some e)
    (h1 : AWP P E x (athen (fun s1 => ∃ v, e = Sum.inl v ∧ Wk s1 (famS F O t ob n v)) Q) ⟨t, ob, n⟩) (h2 : ∀ v, e = Sum.inl v → AWP P E y Q (famS F O t ob n v)) : AWP P E (.seq x y) Q ⟨t, ob, n⟩ := by
  refine AWP.seq (AWP.mono h1 fun ex s1 h => ?_)
  cases ex with
  | normal =>
    obtain ⟨v, hv, hw⟩ := h
    exact fun a w hr => h2 v hv a w (hw E a w hr)
  | _ => exact h
end Go.Proofs.Ytnnpjblpiecfdaa.Fw
