/- The law HeapPlays: all acts. -/
import Derived.Test.YtigpdaofldfkoaaAmHeapR
import Derived.Test.YtigpdaofldfkoaaAmTops
set_option linter.unusedVariables false
set_option linter.unusedSimpArgs false
namespace Go.Am
variable {T : Tab}
/-- An act that comes in. -/
structure Act where
  o : Int
  x : Int
  y : Int
  z : Int
  s : List UInt8
  deriving Inhabited
def encAct (a : Act) : AV := .agg [.int .i64 a.o, .int .i64 a.x, .int .i64 a.y, .int .i64 a.z, .str a.s]
abbrev shA : Sh := .consA (.int .i64) (.consA (.int .i64) (.consA (.int .i64) (.consA (.int .i64) (.consA .str .nilA))))
theorem GoodV.acts {H : AHeap} {a : AV} (h : GoodV H (.slice shA) a) : ∃ l : List Act, Sl encAct 5 H a l := by
  have h : Good H (.slice shA) [a] := h
  obtain ⟨a', l, h1, h2, h3, h4⟩ := h
  cases h1
  obtain ⟨l', q1, q2, q3⟩ := h3.view (enc := encAct) (fun c hc => by
    obtain ⟨c1, d1, rfl, ⟨o, rfl, _⟩, c2, d2, rfl, ⟨x, rfl, _⟩, c3, d3, rfl, ⟨y, rfl, _⟩, c4, d4, rfl, ⟨z, rfl, _⟩, c5, d5, rfl, ⟨s, rfl, _⟩, rfl⟩ := h4 c hc
    exact ⟨⟨o, x, y, z, s⟩, rfl⟩)
  exact ⟨l', q1⟩
end Go.Am
