/- The laws of package big: sums. -/
import Derived.Test.YtdgkaachkodimaaDoorAmText
import Derived.Test.YtdgkaachkodimaaDoorAmTops
set_option linter.unusedVariables false
set_option linter.unusedSimpArgs false
namespace Go.Am
variable {T : Tab}
theorem c407 (Dt : D407 T) {H : AHeap} (hw : WF H) {a b : List UInt8} : Calls T 407 [.str a, .str b] H fun r _ => r = .bool true := by
  refine Calls.fn Dt.pr Dt.fn ?_
  have F := Fx.start hw (D := fun _ => False) (fun _ h => h.elim) (ps := []) trivial
  have kn : ∀ {X : AHeap}, WF X → Calls T 412 [] X fun r X' => Fr X X' ∧ r = .bool true := fun h => c412 Dt.d412 h
  simp [ir407]
  refine WC.of (c411 Dt.d411 F.wf) ?_
  rintro r1 X1 ⟨fr1, rfl⟩
  have F1 := F.call fr1
  by_cases ha : 5000 < a.length
  · simp [ha]
    refine WC.of (kn F1.wf) ?_
    rintro r2 X2 ⟨fr2, rfl⟩
    simp
  · simp [ha]
    refine WC.of (c411 Dt.d411 F1.wf) ?_
    rintro r2 X2 ⟨fr2, rfl⟩
    have F2 := F1.call fr2
    by_cases hb : 5000 < b.length
    · simp [hb]
      refine WC.of (kn F2.wf) ?_
      rintro r3 X3 ⟨fr3, rfl⟩
      simp
    · have la : a.length < 2 ^ 40 := by omega
      have lb : b.length < 2 ^ 40 := by omega
      simp [hb]
      refine WC.of (c428 Dt.d428 F2.wf la lb) ?_
      rintro r3 X3 ⟨fr3, rfl⟩
      have F3 := F2.call fr3
      simp
      refine WC.of (c429 Dt.d429 F3.wf la lb) ?_
      rintro r4 X4 ⟨fr4, rfl⟩
      have F4 := F3.call fr4
      simp
      refine WC.of (c418 Dt.d418 F4.wf la lb) ?_
      rintro r5 X5 ⟨fr5, rfl⟩
      have F5 := F4.call fr5
      simp
      refine WC.of (c430 Dt.d430 F5.wf la lb) ?_
      rintro r6 X6 ⟨fr6, rfl⟩
      have F6 := F5.call fr6
      simp
      refine WC.of (c431 Dt.d431 F6.wf la) ?_
      rintro r7 X7 ⟨fr7, rfl⟩
      have F7 := F6.call fr7
      simp
      refine WC.of (c421 Dt.d421 la) ?_
      rintro r8 X8 ⟨rfl, rfl⟩
      have F8 := F7
      simp
      refine WC.of (c432 Dt.d432 F8.wf la lb) ?_
      rintro r9 X9 ⟨fr9, rfl⟩
      have F9 := F8.call fr9
      simp
      refine WC.of (c433 Dt.d433 F9.wf la lb) ?_
      rintro r10 X10 ⟨fr10, rfl⟩
      have F10 := F9.call fr10
      simp
      refine WC.of (c417 Dt.d417 F10.wf la lb) ?_
      rintro r11 X11 ⟨fr11, rfl⟩
      have F11 := F10.call fr11
      simp
      refine WC.of (c434 Dt.d434 F11.wf la lb) ?_
      rintro r12 X12 ⟨fr12, rfl⟩
      have F12 := F11.call fr12
      simp
      refine WC.of (kn F12.wf) ?_
      rintro r13 X13 ⟨fr13, rfl⟩
      simp
theorem law407 (D : D407 T) {K : AHeap} {as : List AV} (hw : WF K) (hg : Goods K [.str, .str] as) : Calls T 407 as K fun v _ => v = .bool true := by
  obtain ⟨a, r, rfl, g1, b, r2, rfl, g2, rfl⟩ := hg
  obtain ⟨a, ha, _⟩ := g1
  obtain ⟨b, hb, _⟩ := g2
  simp only [List.cons.injEq, and_true] at ha hb
  subst ha hb
  exact c407 D hw
end Go.Am
