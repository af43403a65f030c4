/- The laws of package big: division gives back what was divided; products and sums. -/
import Derived.Test.YtdgkaachkodimaaDoorAmRfs
import Derived.Test.YtdgkaachkodimaaDoorAmTops
set_option linter.unusedVariables false
set_option linter.unusedSimpArgs false
namespace Go.Am
variable {T : Tab}
theorem outS_cases (z : Int) : outS z = (3, []) ∨ (outS z = (0, showS z) ∧ (dig z.natAbs).length ≤ 400) := by
  unfold outS
  cases h : bigZ z with
  | true => left; rfl
  | false =>
    right
    unfold bigZ at h
    exact ⟨rfl, by simpa using h⟩
theorem outS_ok {z : Int} (h : (dig z.natAbs).length ≤ 400) : outS z = (0, showS z) := by
  have : bigZ z = false := by unfold bigZ; simp; exact h
  unfold outS; rw [this]; rfl
theorem rd_ok {a : List UInt8} {x : Int} (h : readS a = some x) : rdS a = x := by unfold rdS; rw [h]; rfl
theorem opS_of {op : Int → Int → Int} {a b : List UInt8} {x y : Int} (ha : readS a = some x) (hb : readS b = some y) : opS op a b = outS (op x y) := by
  have e : errS [a, b] = 0 := errS_of fun s hs => by
    simp at hs
    rcases hs with rfl | rfl
    · exact ⟨_, ha⟩
    · exact ⟨_, hb⟩
  unfold opS
  rw [if_pos e, rd_ok ha, rd_ok hb]
theorem opS_len {op : Int → Int → Int} {a b : List UInt8} : (opS op a b).2.length ≤ 401 := by
  unfold opS
  split
  · rcases outS_cases (op (rdS a) (rdS b)) with h | ⟨h, l⟩
    · rw [h]; simp
    · rw [h]; exact show_len l
  · simp
end Go.Am
