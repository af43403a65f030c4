/- The laws of package big: fractions. -/
import Derived.Test.YtdgkaachkodimaaDoorAmRfs
import Derived.Test.YtdgkaachkodimaaDoorAmTops
set_option linter.unusedVariables false
set_option linter.unusedSimpArgs false
namespace Go.Am
variable {T : Tab}
theorem c402 (Dt : D402 T) {H : AHeap} (hw : WF H) {a b : List UInt8} {p : Int} : Calls T 402 [.str a, .str b, .int .i64 p] H fun r _ => r = .bool true := by
  refine Calls.fn Dt.pr Dt.fn ?_
  have F := Fx.start hw (D := fun _ => False) (fun _ h => h.elim) (ps := []) trivial
  have kn : ∀ {X : AHeap}, WF X → Calls T 412 [] X fun r X' => Fr X X' ∧ r = .bool true := fun h => c412 Dt.d412 h
  simp [ir402]
  refine WC.of (c411 Dt.d411 F.wf) ?_
  rintro r1 X1 ⟨fr1, rfl⟩
  have F1 := F.call fr1
  by_cases ha : 5000 < a.length
  · simp [ha]
    refine WC.of (kn F1.wf) ?_
    rintro r2 X2 ⟨fr2, rfl⟩
    simp
  simp [ha]
  refine WC.of (c411 Dt.d411 F1.wf) ?_
  rintro r2 X2 ⟨fr2, rfl⟩
  have F2 := F1.call fr2
  by_cases hb : 5000 < b.length
  · simp [hb]
    refine WC.of (kn F2.wf) ?_
    rintro r3 X3 ⟨fr3, rfl⟩
    simp
  have la : a.length < 2 ^ 40 := by omega
  have lb : b.length < 2 ^ 40 := by omega
  simp [hb]
  refine WC.of (c413 Dt.d413 F2.wf la lb) ?_
  rintro r4 X4 ⟨fr4, rfl⟩
  have F4 := F2.call fr4
  obtain ⟨P, hP⟩ : ∃ P, fracS a b p = P := ⟨_, rfl⟩
  rw [hP]
  simp
  refine WC.of (c414 Dt.d414 F4.wf la lb) ?_
  rintro r5 X5 ⟨fr5, rfl⟩
  have F5 := F4.call fr5
  rw [hP]
  simp
  refine WC.of (kn F5.wf) ?_
  rintro r6 X6 ⟨fr6, rfl⟩
  simp
theorem law402 (D : D402 T) {K : AHeap} {as : List AV} (hw : WF K) (hg : Goods K [.str, .str, .int .i64] as) : Calls T 402 as K fun v _ => v = .bool true := by
  obtain ⟨a, r, rfl, g1, b, r2, rfl, g2, c, r3, rfl, g3, rfl⟩ := hg
  obtain ⟨a, ha, _⟩ := g1
  obtain ⟨b, hb, _⟩ := g2
  obtain ⟨c, hc, _⟩ := g3
  simp only [List.cons.injEq, and_true] at ha hb hc
  subst ha hb hc
  exact c402 D hw
end Go.Am
