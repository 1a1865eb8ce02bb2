/- Runes of a string. Nothing of any program stands here. -/
import Derived.Test.YtcjdbmcklemkkaaDoorVcList
import Derived.Lib.MapLaws
namespace Go.Vc
open Go
/-- A rune's bytes: at least one, none beyond the end; behind the first one all are high. -/
theorem decode_wide (l : List UInt8) (pos : Nat) (h : pos < l.length) : 1 ≤ (Utf8.decode (str l) pos).2 ∧ pos + (Utf8.decode (str l) pos).2 ≤ l.length ∧ ∀ j, pos < j → j < pos + (Utf8.decode (str l) pos).2 → 128 ≤ (l.getD j 0).toNat := by
  have e : Utf8.decode (str l) pos = Lib.decodeN (l.length - pos) (l.getD pos 0).toNat (l.getD (pos + 1) 0).toNat (l.getD (pos + 2) 0).toNat (l.getD (pos + 3) 0).toNat := by
    have := Lib.decode_N (str l) pos
    simpa [str] using this
  rw [e]
  rcases Lib.decodeN_shape (l.length - pos) (l.getD pos 0).toNat (l.getD (pos + 1) 0).toNat (l.getD (pos + 2) 0).toNat (l.getD (pos + 3) 0).toNat with ⟨_, h2⟩ | ⟨_, h1, h3, _, h2⟩ | ⟨_, h1, h3, h4, _, _, h2⟩ | ⟨_, h1, h3, h4, h5, _, _, h2⟩ | h2
  · rw [h2]; exact ⟨Nat.le_refl _, h, fun j a b => by simp only at b; omega⟩
  · rw [h2]; refine ⟨by simp only; omega, by simp only; omega, fun j a b => ?_⟩
    simp only at b
    obtain rfl : j = pos + 1 := by omega
    omega
  · rw [h2]; refine ⟨by simp only; omega, by simp only; omega, fun j a b => ?_⟩
    simp only at b
    have : j = pos + 1 ∨ j = pos + 2 := by omega
    rcases this with rfl | rfl <;> omega
  · rw [h2]; refine ⟨by simp only; omega, by simp only; omega, fun j a b => ?_⟩
    simp only at b
    have : j = pos + 1 ∨ j = pos + 2 ∨ j = pos + 3 := by omega
    rcases this with rfl | rfl | rfl <;> omega
  · rw [h2]; exact ⟨Nat.le_refl _, h, fun j a b => by simp only at b; omega⟩
end Go.Vc
