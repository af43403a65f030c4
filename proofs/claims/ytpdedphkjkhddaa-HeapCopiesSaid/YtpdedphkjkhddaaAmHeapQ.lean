/- Contracts: what the laws over heaps call: known, seen, SameInts. -/
import Derived.Test.YtpdedphkjkhddaaAmHeapP
import Derived.Test.YtpdedphkjkhddaaAmFloat
set_option linter.unusedVariables false
set_option linter.unusedSimpArgs false
namespace Go.Am
variable {T : Tab}
theorem c135 (D : D135 T) {H : AHeap} {u v : AV} {l m : List Int} (hu : Sl encI 1 H u l) (hv : Sl encI 1 H v m) (hl : l.length < 2 ^ 62) : Calls T 135 [u, v] H fun r H' => H' = H ∧ r = .bool (decide (l = m)) := by
  refine Calls.fn D.pr D.fn ?_
  simp [ir135, hu.len, hv.len]
  refine WB.bool ?_ ?_
  · intro h
    simp at h ⊢
    intro e; subst e; simp at h
  · intro h
    simp at h ⊢
    refine W_loop (fun (i : Nat) e H' => H' = H ∧ e 0 = u ∧ e 1 = v ∧ ∃ j : Nat, i + j = l.length ∧ e 5 = .int .i64 j ∧ l.take j = m.take j) id l.length ?_ ?_
    · simp
    · rintro i e H' ⟨rfl, h0, h1, j, hj, h5, ht⟩
      simp [h0, h1, h5, hu.len]
      refine WB.bool ?_ ?_
      · intro h2
        simp at h2
        simp (disch := omega) [h0, h1, h5, hu.ia, hv.ia, hu.ld, hv.ld]
        refine WB.bool ?_ ?_
        · intro h3
          simp at h3 ⊢
          rintro rfl
          exact h3 rfl
        · intro h3
          simp at h3
          simp (disch := omega) [h0, h1, h5, wrap64]
          refine ⟨i - 1, by omega, j + 1, by omega, by omega, ?_⟩
          rw [take_nth (by omega), take_nth (by omega), ht, h3]
      · intro h2
        simp at h2 ⊢
        have e1 : l.length ≤ j := by omega
        rw [List.take_of_length_le (by omega), List.take_of_length_le (by omega)] at ht
        exact ht
/-- What known does, in the reference's words. -/
def kn1 : Rp := (makeQ Rp.none 1 false).1
def kn2 : Rp := (makeQ kn1 0 false).1
def kn3 : Rp := (rootQ kn2 0).1
def kn4 : Rp := (setQ kn3 0 0 1 false).1
def kn5 : Rp := (dropQ kn4 0).1
def kn6 : Rp := (settleQ (2 ^ 29) (2 ^ 29) kn5).1
theorem c319 (D : D319 T) {H : AHeap} (hw : WF H) : Calls T 319 [] H fun r K => r = .bool true := by
  refine Calls.fn D.pr D.fn ?_
  simp [ir319]
  refine WC.of (c320 (tg := fun _ => none) D.d320 0 hw (fun _ _ => rfl)) ?_
  rintro r K ⟨rfl, tg1, u1, h1⟩
  have b0 : Both 1 Hp.none Rp.none := both_none
  simp
  refine WC.of (p343 D.d343 u1.wf u1.ok h1 b0 (by decide) (by decide) (by decide)) ?_
  rintro r K1 ⟨rfl, S1, ⟨tg2, u2, h2⟩, d2⟩
  rw [show (makeQ Rp.none 1 false).2 = (0, 0) by decide]
  rw [show (makeQ Rp.none 1 false).1 = kn1 from rfl] at d2
  simp
  refine WC.of (p343 D.d343 u2.wf u2.ok h2 d2.both (by decide) (by decide) (by decide)) ?_
  rintro r K2 ⟨rfl, S2, ⟨tg3, u3, h3⟩, d3⟩
  rw [show (makeQ kn1 0 false).2 = (1, 0) by decide]
  rw [show (makeQ kn1 0 false).1 = kn2 from rfl] at d3
  simp
  refine WC.of (p324 D.d324 u3.wf u3.ok h3 d3.both (by decide) (by decide)) ?_
  rintro r K3 ⟨rfl, S3, ⟨tg4, u4, h4⟩, d4⟩
  rw [show (rootQ kn2 0).1 = kn3 from rfl] at d4
  simp
  refine WC.of (p345 D.d345 u4.wf u4.ok h4 d4.both (by decide) (by decide)) ?_
  rintro r K4 ⟨rfl, S4, ⟨tg5, u5, h5⟩, d5⟩
  rw [show (setQ kn3 0 0 1 false).1 = kn4 from rfl] at d5
  simp
  refine WC.of (p325 D.d325 u5.wf u5.ok h5 d5.both (by decide) (by decide)) ?_
  rintro r K5 ⟨rfl, S5, ⟨tg6, u6, h6⟩, d6⟩
  rw [show (dropQ kn4 0).1 = kn5 from rfl] at d6
  simp
  refine WC.of (p339 D.d339 u6.wf u6.ok h6 d6.both (by decide) (by decide)) ?_
  rintro r K6 ⟨S6, tg7, u7, h7, d7, _⟩
  rw [show (settleQ (2 ^ 29) (2 ^ 29) kn5).1 = kn6 from rfl] at d7
  simp
  refine WC.of (p340 D.d340 u7.wf u7.ok h7 d7.both) ?_
  rintro r K7 ⟨rfl, ⟨tg8, u8, h8⟩⟩
  rw [show stateR kn6.hp 0 = (2, 0) by decide +kernel]
  simp
  refine WC.of (p340 D.d340 u8.wf u8.ok h8 d7.both) ?_
  rintro r K8 ⟨rfl, ⟨tg9, u9, h9⟩⟩
  rw [show stateR kn6.hp 1 = (2, 0) by decide +kernel]
  simp
end Go.Am
