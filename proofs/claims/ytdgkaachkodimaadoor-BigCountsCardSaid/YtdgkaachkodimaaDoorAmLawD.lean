/- The laws of package big: factorials and binomials. -/
import Derived.Test.YtdgkaachkodimaaDoorAmRfs
import Derived.Test.YtdgkaachkodimaaDoorAmTops
set_option linter.unusedVariables false
set_option linter.unusedSimpArgs false
namespace Go.Am
variable {T : Tab}
theorem c406 (Dt : D406 T) {H : AHeap} (hw : WF H) {n k : Int} : Calls T 406 [.int .i64 n, .int .i64 k] H fun r _ => r = .bool true := by
  refine Calls.fn Dt.pr Dt.fn ?_
  have F := Fx.start hw (D := fun _ => False) (fun _ h => h.elim) (ps := []) trivial
  simp [ir406]
  refine WC.of (c424 Dt.d424 F.wf) ?_
  rintro r1 X1 ⟨fr1, rfl⟩
  have F1 := F.call fr1
  simp
  refine WC.of (c425 Dt.d425 F1.wf) ?_
  rintro r2 X2 ⟨fr2, rfl⟩
  have F2 := F1.call fr2
  simp
  refine WC.of (c426 Dt.d426 F2.wf) ?_
  rintro r3 X3 ⟨fr3, rfl⟩
  have F3 := F2.call fr3
  simp
  refine WC.of (c427 Dt.d427 F3.wf) ?_
  rintro r4 X4 ⟨fr4, rfl⟩
  have F4 := F3.call fr4
  simp
  refine WC.of (c412 Dt.d412 F4.wf) ?_
  rintro r5 X5 ⟨fr5, rfl⟩
  simp
theorem law406 (D : D406 T) {K : AHeap} {as : List AV} (hw : WF K) (hg : Goods K [.int .i64, .int .i64] as) : Calls T 406 as K fun v _ => v = .bool true := by
  obtain ⟨a, r, rfl, g1, b, r2, rfl, g2, rfl⟩ := hg
  obtain ⟨a, ha, _⟩ := g1
  obtain ⟨b, hb, _⟩ := g2
  simp only [List.cons.injEq, and_true] at ha hb
  subst ha hb
  exact c406 D hw
end Go.Am
