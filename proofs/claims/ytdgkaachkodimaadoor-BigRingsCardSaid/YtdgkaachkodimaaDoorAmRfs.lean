/- Contracts of the reference's numbers: trimming, reading, comparing. -/
import Derived.Test.YtdgkaachkodimaaDoorAmBigsO
import Derived.Test.YtdgkaachkodimaaDoorAmBigsH
set_option linter.unusedVariables false
set_option linter.unusedSimpArgs false
namespace Go.Am
variable {T : Tab}
/-- A number of the reference: its digits, the lowest one first, and its sign. -/
def NV (D : Nat → Prop) (H : AHeap) (v : AV) (z : Int) : Prop := ∃ s, v = .agg [s, .bool (bel z)] ∧ Rd D encI 1 H s (rdig z.natAbs)
theorem NV.to {D : Nat → Prop} {H : AHeap} {v : AV} {z z' : Int} (h : NV D H v z) (e : z = z') : NV D H v z' := e ▸ h
theorem NV.box {D : Nat → Prop} {H : AHeap} {v : AV} {z : Int} (h : NV D H v z) : ∃ s, v = .agg [s, .bool (bel z)] ∧ s.cell = true ∧ Rd D encI 1 H s (rdig z.natAbs) := by
  obtain ⟨s, e, h⟩ := h; exact ⟨s, e, h.sl.form.1, h⟩
end Go.Am

/- Contracts of the reference's numbers: reading and writing. -/
set_option linter.unusedVariables false
set_option linter.unusedSimpArgs false
namespace Go.Am
variable {T : Tab}
/-- A right text, in parts. -/
theorem readS_parts {s : List UInt8} {z : Int} (h : readS s = some z) : ∃ (d : List UInt8) (neg : Bool), s = (if neg then [45] else []) ++ d ∧ d.all digB = true ∧ d.length ≤ 400 ∧ z = sgn neg (valS d) ∧ (neg = true → valS d ≠ 0) := by
  unfold readS at h
  have hs : s = (if (cutP s [45]).2 then [45] else []) ++ (cutP s [45]).1 := by
    unfold cutP
    split
    · rename_i h
      simp only [List.length_singleton] at h ⊢
      conv => lhs; rw [← List.take_append_drop 1 s, h]
      rfl
    · rfl
  obtain ⟨d, hd⟩ : ∃ d, (cutP s [45]).1 = d := ⟨_, rfl⟩
  obtain ⟨neg, hneg⟩ : ∃ neg, (cutP s [45]).2 = neg := ⟨_, rfl⟩
  rw [hd, hneg] at h hs
  refine ⟨d, neg, hs, ?_⟩
  unfold readD at h
  split at h
  · rename_i h0
    obtain ⟨rfl, rfl⟩ := h0
    simp at h
    subst h
    exact ⟨by decide, by decide, rfl, by simp⟩
  · split at h
    · cases h
    · rename_i hn
      simp only [not_or, Bool.not_eq_false] at hn
      obtain ⟨b1, b2, b3, b4⟩ := hn
      simp at h
      exact ⟨b4, by omega, h.symm, fun _ => (dig_dl b1 b2 b4).1⟩
end Go.Am

/- Contracts of the reference's numbers: of, write, Valid, checked, told. -/
set_option linter.unusedVariables false
set_option linter.unusedSimpArgs false
namespace Go.Am
variable {T : Tab}
/-- Bytes that may grow, in a buffer of a known type. -/
abbrev Ob.buf (ta : Nat) (v : AV) (l : List UInt8) (f : Option Nat) : Ob :=
  ⟨f.toList, fun H => Own encU 1 H v l f ∧ BufT ta H v, fun _ hw h g hg => by simp at hg; subst hg; exact h.1.2.lt hw, fun _ _ _ hw h k hd => ⟨h.1.keeps hw k fun g hg => hd g (by simp [hg]), h.2.keeps hw k h.1.1⟩⟩
section
variable {H0 H H' : AHeap} {D : Nat → Prop} {os : List Ob} {ps : List Pb}
end
end Go.Am

/- Contracts of the reference's numbers: Valid, checked, told. -/
set_option linter.unusedVariables false
set_option linter.unusedSimpArgs false
namespace Go.Am
variable {T : Tab}
end Go.Am

/- Contracts of the reference's numbers: sum and difference. -/
set_option linter.unusedVariables false
set_option linter.unusedSimpArgs false
namespace Go.Am
variable {T : Tab}
end Go.Am

/- Contracts of the reference's numbers: products. -/
set_option linter.unusedVariables false
set_option linter.unusedSimpArgs false
namespace Go.Am
variable {T : Tab}
end Go.Am

/- Contracts of the reference's numbers: quotients. -/
set_option linter.unusedVariables false
set_option linter.unusedSimpArgs false
namespace Go.Am
variable {T : Tab}
end Go.Am

/- Contracts of the reference: Add, Sub, Mul, Div, Compare, Digits, Int, Pow, Prime. -/
set_option linter.unusedVariables false
set_option linter.unusedSimpArgs false
namespace Go.Am
variable {T : Tab}
end Go.Am
