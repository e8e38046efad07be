/- Sizes of lists, element by element. -/
import Derived.Test.YtnnpjblpiecfdaaFwYb
namespace Go.Proofs.Ytnnpjblpiecfdaa.Fw
def szGoG {α : Type} (f : Int → α → Int) (l : Int) : List α → Int
  | [] => l
  | b :: bs => if f l b < 0 then -1 else szGoG f (f l b) bs
def szG {α : Type} (f : Int → α → Int) (l : Int) (bs : List α) : Int := if IntKind.wrap .i64 (l - bs.length) < 0 then -1 else szGoG f (IntKind.wrap .i64 (l - bs.length)) bs
theorem szG_ge {α : Type} {f : Int → α → Int} {bs : List α} {l : Int} (h : ¬ szG f l bs < 0) (hl : bs.length ≤ 9223372036854775807) (h0 : 0 ≤ l) (h1 : l ≤ 1048576) : bs.length ≤ 1048576 := by
  unfold szG at h
  rw [wrap_i64 (by omega) (by omega)] at h
  split at h <;> omega
/-- Where no element makes more room than there was, the whole does not. -/
theorem szGoG_le {α : Type} {f : Int → α → Int} : ∀ {bs : List α} {l : Int}, (∀ b ∈ bs, ∀ l, 0 ≤ l → l ≤ 1048576 → f l b ≤ l) → 0 ≤ l → l ≤ 1048576 → szGoG f l bs ≤ l
  | [], l, _, _, _ => by simp [szGoG]
  | b :: bs, l, hf, h0, h1 => by
    have h2 := hf b (by simp) l h0 h1
    simp only [szGoG]
    split
    · omega
    · have := szGoG_le (bs := bs) (l := f l b) (fun b' hb' => hf b' (by simp [hb'])) (by omega) (by omega)
      omega
theorem szG_le {α : Type} {f : Int → α → Int} {bs : List α} {l : Int} (hf : ∀ b ∈ bs, ∀ l, 0 ≤ l → l ≤ 1048576 → f l b ≤ l) (hl : bs.length ≤ 9223372036854775807) (h0 : 0 ≤ l) (h1 : l ≤ 1048576) : szG f l bs ≤ 1048576 := by
  unfold szG
  rw [wrap_i64 (by omega) (by omega)]
  split
  · omega
  · have := szGoG_le hf (bs := bs) (l := l - bs.length) (by omega) (by omega)
    omega
end Go.Proofs.Ytnnpjblpiecfdaa.Fw
