/- The laws of package big: powers modulo a number. -/
import Derived.Test.YtdgkaachkodimaaDoorAmRfs
import Derived.Test.YtdgkaachkodimaaDoorAmTops
set_option linter.unusedVariables false
set_option linter.unusedSimpArgs false
namespace Go.Am
variable {T : Tab}
theorem c409 (Dt : D409 T) {H : AHeap} (hw : WF H) {a b c : List UInt8} : Calls T 409 [.str a, .str b, .str c] H fun r _ => r = .bool true := by
  refine Calls.fn Dt.pr Dt.fn ?_
  have F := Fx.start hw (D := fun _ => False) (fun _ h => h.elim) (ps := []) trivial
  have kn : ∀ {X : AHeap}, WF X → Calls T 412 [] X fun r X' => Fr X X' ∧ r = .bool true := fun h => c412 Dt.d412 h
  simp [ir409]
  refine WC.of (c411 Dt.d411 F.wf) ?_
  rintro r1 X1 ⟨fr1, rfl⟩
  have F1 := F.call fr1
  by_cases ha : 5000 < a.length
  · simp [ha]
    refine WC.of (kn F1.wf) ?_
    rintro r2 X2 ⟨fr2, rfl⟩
    simp
  simp [ha]
  refine WC.of (c411 Dt.d411 F1.wf) ?_
  rintro r2 X2 ⟨fr2, rfl⟩
  have F2 := F1.call fr2
  by_cases hb : 5000 < b.length
  · simp [hb]
    refine WC.of (kn F2.wf) ?_
    rintro r3 X3 ⟨fr3, rfl⟩
    simp
  simp [hb]
  refine WC.of (c411 Dt.d411 F2.wf) ?_
  rintro r3 X3 ⟨fr3, rfl⟩
  have F3 := F2.call fr3
  by_cases hc : 5000 < c.length
  · simp [hc]
    refine WC.of (kn F3.wf) ?_
    rintro r4 X4 ⟨fr4, rfl⟩
    simp
  have la : a.length < 2 ^ 40 := by omega
  have lb : b.length < 2 ^ 40 := by omega
  have lc : c.length < 2 ^ 40 := by omega
  simp [hc]
  refine WC.of (c439 Dt.d439 F3.wf la lb lc) ?_
  rintro r4 X4 ⟨fr4, rfl⟩
  have F4 := F3.call fr4
  obtain ⟨P, hP⟩ : ∃ P, pmS a b c = P := ⟨_, rfl⟩
  rw [hP]
  simp
  refine WC.of (c440 Dt.d440 F4.wf la lb lc) ?_
  rintro r5 X5 ⟨fr5, rfl⟩
  have F5 := F4.call fr5
  rw [hP]
  simp
  refine WC.of (kn F5.wf) ?_
  rintro r6 X6 ⟨fr6, rfl⟩
  simp
theorem law409 (D : D409 T) {K : AHeap} {as : List AV} (hw : WF K) (hg : Goods K [.str, .str, .str] as) : Calls T 409 as K fun v _ => v = .bool true := by
  obtain ⟨a, r, rfl, g1, b, r2, rfl, g2, c, r3, rfl, g3, rfl⟩ := hg
  obtain ⟨a, ha, _⟩ := g1
  obtain ⟨b, hb, _⟩ := g2
  obtain ⟨c, hc, _⟩ := g3
  simp only [List.cons.injEq, and_true] at ha hb hc
  subst ha hb hc
  exact c409 D hw
end Go.Am
