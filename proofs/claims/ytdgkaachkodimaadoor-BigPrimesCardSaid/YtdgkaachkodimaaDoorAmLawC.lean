/- The laws of package big: primes. -/
import Derived.Test.YtdgkaachkodimaaDoorAmText
import Derived.Test.YtdgkaachkodimaaDoorAmRfs
import Derived.Test.YtdgkaachkodimaaDoorAmTops
set_option linter.unusedVariables false
set_option linter.unusedSimpArgs false
namespace Go.Am
variable {T : Tab}
theorem PrimeQ.uniq {e x : Int} {r s : AV} (h : PrimeQ e x r) (k : PrimeQ e x s) : ∃ b, r = .tup [.bool b, .int .i64 e] ∧ s = .tup [.bool b, .int .i64 e] := by
  obtain ⟨b, hb, h1⟩ := h
  obtain ⟨c, hc, k1⟩ := k
  have : b = c := by rw [Bool.eq_iff_iff, h1, k1]
  subst this
  exact ⟨b, hb, hc⟩
theorem c410 (Dt : D410 T) {H : AHeap} (hw : WF H) {a : List UInt8} : Calls T 410 [.str a] H fun r _ => r = .bool true := by
  refine Calls.fn Dt.pr Dt.fn ?_
  have F := Fx.start hw (D := fun _ => False) (fun _ h => h.elim) (ps := []) trivial
  have kn : ∀ {X : AHeap}, WF X → Calls T 412 [] X fun r X' => Fr X X' ∧ r = .bool true := fun h => c412 Dt.d412 h
  simp [ir410]
  refine WC.of (c411 Dt.d411 F.wf) ?_
  rintro r1 X1 ⟨fr1, rfl⟩
  have F1 := F.call fr1
  by_cases ha : 5000 < a.length
  · simp [ha]
    refine WC.of (kn F1.wf) ?_
    rintro r2 X2 ⟨fr2, rfl⟩
    simp
  have la : a.length < 2 ^ 40 := by omega
  obtain ⟨E, hE⟩ : ∃ E, errS [a] = E := ⟨_, rfl⟩
  simp [ha]
  refine WC.of (c441 Dt.d441 F1.wf la) ?_
  rintro r2 X2 ⟨fr2, rfl⟩
  have F2 := F1.call fr2
  obtain ⟨dg, hdg⟩ : ∃ dg : Int, (if errS [a] = 0 then max (((dig (rdS a).natAbs).length : Nat) : Int) 1 else 0) = dg := ⟨_, rfl⟩
  rw [hdg]
  simp
  refine WC.of (c442 Dt.d442 F2.wf la) ?_
  rintro r3 X3 ⟨fr3, rfl⟩
  have F3 := F2.call fr3
  simp
  refine WC.of (c443 Dt.d443 F3.wf la) ?_
  rintro r4 X4 ⟨fr4, rfl⟩
  have F4 := F3.call fr4
  rw [hdg]
  simp
  refine WC.of (c444 Dt.d444 F4.wf la) ?_
  rintro r5 X5 ⟨fr5, rfl⟩
  have F5 := F4.call fr5
  simp
  refine WC.of (c445 Dt.d445 F5.wf la) ?_
  rintro r6 X6 ⟨fr6, h6⟩
  have F6 := F5.call fr6
  obtain ⟨b6, hb6, hp6⟩ := h6
  subst hb6
  simp
  refine WC.of (c446 Dt.d446 F6.wf la) ?_
  rintro r7 X7 ⟨fr7, h7⟩
  have F7 := F6.call fr7
  obtain ⟨b, e1, e2⟩ := PrimeQ.uniq ⟨b6, rfl, hp6⟩ h7
  simp only [AV.tup.injEq, List.cons.injEq, AV.bool.injEq, and_true] at e1
  subst e1 e2
  simp
  refine WC.of (kn F7.wf) ?_
  rintro r8 X8 ⟨fr8, rfl⟩
  simp
theorem law410 (D : D410 T) {K : AHeap} {as : List AV} (hw : WF K) (hg : Goods K [.str] as) : Calls T 410 as K fun v _ => v = .bool true := by
  obtain ⟨a, r, rfl, g1, rfl⟩ := hg
  obtain ⟨a, ha, _⟩ := g1
  simp only [List.cons.injEq, and_true] at ha
  subst ha
  exact c410 D hw
end Go.Am
