/- The law of lists two by two, laid into each other, and multiplied. Printed by mkprod3.py. -/
import Derived.Test.YtjmiblcdjkcgoaaAmProd2
set_option linter.unusedVariables false
set_option linter.unusedSimpArgs false
namespace Go.Am
variable {T : Tab}

theorem prodR_mem (ls : List (List (List UInt8))) : ∀ a ∈ (prodR ls).1, a.length ≤ 200 := by
  intro a ha
  unfold prodR at ha
  cases hm : manyB ls with
  | true => rw [if_pos hm] at ha; simp at ha
  | false =>
    rw [if_neg (by simp [hm])] at ha
    obtain ⟨hl, _⟩ := many_false hm
    split at ha
    · simp at ha
    · split at ha
      · simp at ha
      · have := prodA_mem (ls := ls) ls.length (Nat.le_refl _)
        rw [List.take_length] at this
        rw [this a ha]; exact hl

theorem prodR_len (ls : List (List (List UInt8))) : (prodR ls).1.length ≤ 200 := by
  unfold prodR
  split
  · simp
  · split
    · simp
    · split
      · simp
      · show (prodA ls).length ≤ 200
        omega
theorem pairsR_len (l : List (List UInt8)) : (pairsR l).1.length ≤ 200 := by
  unfold pairsR
  split
  · simp
  · have := pairUp_len l.length l (Nat.le_refl _)
    show (pairUp l).length ≤ 200
    omega

theorem c109 (D : D109 T) {H : AHeap} (hw : WF H) {v : AV} {ls : List (List (List UInt8))} (hv : Sls H v ls) (hl : ls.length < 2 ^ 63) (hm : ∀ i : Nat, i < ls.length → (nth ls (i : Int)).length < 2 ^ 63) : Calls T 109 [v] H fun r _ => r = .bool true := by
  refine Calls.fn D.pr D.fn ?_
  have known : ∀ {X : AHeap}, WF X → Calls T 112 [] X fun v _ => v = .bool true := fun h => c112 D.d112 h
  have heq : ∀ x y : List UInt8, psem (.eqCells true [.str, .str]) [.agg [.str x, .str y], .agg [.str x, .str y]] = some (.bool false) := by intro x y; simp [psem, eqCells]
  simp [ir109]
  refine WC.of (c136 D.d136 hv hl hm) ?_
  rintro r H ⟨rfl, b, rfl⟩
  cases b with
  | true =>
    simp
    refine WC.of (known hw) ?_
    rintro v H' rfl
    simp
  | false =>
  by_cases h0 : 0 < ls.length
  · obtain ⟨u, su, l1f⟩ := hv.getF hw h0
    have l1f : ∀ {K : AHeap}, Fr H K → rsem (.ld 1 false) [elt v 1 0] K = some u := fun f => by simpa using l1f f
    have hia : ∀ {k : IntKind}, psem (.ia 1) [v, .int k 0] = some (elt v 1 0) := fun {k} => hv.ia (k := k) (i := 0) (by omega) (by omega)
    have l0 := l1f (.refl hw)
    generalize nth ls ((0 : Nat) : Int) = m0 at *
    simp [hv.len, h0, hia, l0]
    refine WC.of (c137 D.d137 hw su) ?_
    rintro r J1 ⟨f1, a1, rfl, m1⟩
    have l2 := l1f f1
    simp [hia, l2]
    refine WC.of (c138 D.d138 f1.wf (su.fr hw f1)) ?_
    rintro r J2 ⟨f2, a2, rfl, m2⟩
    have fK := f1.trans f2
    have m1' := m1.fr f1.wf f2
    have hpl := pairsR_len m0
    generalize (pairsR m0).1 = ps at *
    simp [m1'.sl.len, m2.sl.len]
    refine W_loop (fun (i : Nat) e K => K = J2 ∧ e 0 = v ∧ e 3 = a1 ∧ e 5 = a2 ∧ ∃ j : Nat, i + j = ps.length ∧ e 7 = .int .i64 j) id ps.length ?_ ?_
    · exact ⟨rfl, by simp, by simp, by simp, 0, by simp, by simp⟩
    · rintro i e K ⟨rfl, e0, e3, e5, j, hj, e7⟩
      by_cases hjl : j < ps.length
      · have q1 := m1'.sl.ldA (i := (j : Int)) (by omega) (by omega) rfl
        have q2 := m2.sl.ldA (i := (j : Int)) (by omega) (by omega) rfl
        generalize nth ps (j : Int) = p at *
        simp (disch := omega) [e0, e3, e5, e7, hjl, m2.sl.len, m2.sl.ia, m1'.sl.ia, q1, q2, heq, wrap64]
        exact ⟨i - 1, by omega, j + 1, by omega, by omega⟩
      · simp [e0, e3, e5, e7, hjl, m2.sl.len]
        refine WC.of (c139 D.d139 fK.wf (hv.fr hw fK)) ?_
        rintro r K1 ⟨f1, z1, rfl, m1⟩
        have g1 := fK.trans f1
        simp [e0]
        refine WC.of (c140 D.d140 g1.wf (hv.fr hw g1)) ?_
        rintro r K2 ⟨f2, p1, rfl, s1⟩
        have g2 := g1.trans f2
        simp [e0]
        refine WC.of (c141 D.d141 g2.wf (hv.fr hw g2)) ?_
        rintro r K3 ⟨f3, z2, rfl, m2⟩
        have g3 := g2.trans f3
        simp [e0]
        refine WC.of (c142 D.d142 g3.wf (hv.fr hw g3)) ?_
        rintro r K4 ⟨f4, p2, rfl, s2⟩
        have g4 := g3.trans f4
        have hzl := zipR_len ls
        simp
        refine WC.of (c122 D.d122 (m2.sl.fr g3.wf f4) (m1.sl.fr g1.wf (f2.trans (f3.trans f4))) (by omega)) ?_
        rintro r K5 ⟨rfl, rfl⟩
        have s1' := s1.fr g2.wf (f3.trans f4)
        have hpm := prodR_mem ls
        have hprl := prodR_len ls
        generalize (prodR ls).2 = pe
        generalize (prodR ls).1 = ps at *
        simp [s1'.len, s2.len]
        refine W_loop (fun (i : Nat) e K => K = K5 ∧ e 14 = p2 ∧ e 10 = p1 ∧ ∃ j : Nat, i + j = ps.length ∧ e 16 = .int .i64 j) id ps.length ?_ ?_
        · exact ⟨rfl, by simp, by simp, 0, by simp, by simp⟩
        · rintro i e K ⟨rfl, h14, h10, j, hj, h16⟩
          by_cases hjl : j < ps.length
          · obtain ⟨u, l1, su⟩ := s2.get hjl
            obtain ⟨w, l2, sw⟩ := s1'.get hjl
            have hml := hpm _ (nth_mem hjl)
            generalize nth ps (j : Int) = m at *
            simp (disch := omega) [h10, h14, h16, hjl, s2.len, s2.ia, s1'.ia, l1, l2]
            refine WC.of (c122 D.d122 su sw (by omega)) ?_
            rintro r K ⟨rfl, rfl⟩
            simp (disch := omega) [h10, h14, h16, wrap64]
            exact ⟨i - 1, by omega, j + 1, by omega, by omega⟩
          · simp [h10, h14, h16, hjl, s2.len]
            refine WC.of (known g4.wf) ?_
            rintro v H' rfl
            simp
  · simp [hv.len, h0]
    have fK : Fr H H := .refl hw
    have e0 : True := trivial
    refine WC.of (c139 D.d139 fK.wf (hv.fr hw fK)) ?_
    rintro r K1 ⟨f1, z1, rfl, m1⟩
    have g1 := fK.trans f1
    simp [e0]
    refine WC.of (c140 D.d140 g1.wf (hv.fr hw g1)) ?_
    rintro r K2 ⟨f2, p1, rfl, s1⟩
    have g2 := g1.trans f2
    simp [e0]
    refine WC.of (c141 D.d141 g2.wf (hv.fr hw g2)) ?_
    rintro r K3 ⟨f3, z2, rfl, m2⟩
    have g3 := g2.trans f3
    simp [e0]
    refine WC.of (c142 D.d142 g3.wf (hv.fr hw g3)) ?_
    rintro r K4 ⟨f4, p2, rfl, s2⟩
    have g4 := g3.trans f4
    have hzl := zipR_len ls
    simp
    refine WC.of (c122 D.d122 (m2.sl.fr g3.wf f4) (m1.sl.fr g1.wf (f2.trans (f3.trans f4))) (by omega)) ?_
    rintro r K5 ⟨rfl, rfl⟩
    have s1' := s1.fr g2.wf (f3.trans f4)
    have hpm := prodR_mem ls
    have hprl := prodR_len ls
    generalize (prodR ls).2 = pe
    generalize (prodR ls).1 = ps at *
    simp [s1'.len, s2.len]
    refine W_loop (fun (i : Nat) e K => K = K5 ∧ e 14 = p2 ∧ e 10 = p1 ∧ ∃ j : Nat, i + j = ps.length ∧ e 16 = .int .i64 j) id ps.length ?_ ?_
    · exact ⟨rfl, by simp, by simp, 0, by simp, by simp⟩
    · rintro i e K ⟨rfl, h14, h10, j, hj, h16⟩
      by_cases hjl : j < ps.length
      · obtain ⟨u, l1, su⟩ := s2.get hjl
        obtain ⟨w, l2, sw⟩ := s1'.get hjl
        have hml := hpm _ (nth_mem hjl)
        generalize nth ps (j : Int) = m at *
        simp (disch := omega) [h10, h14, h16, hjl, s2.len, s2.ia, s1'.ia, l1, l2]
        refine WC.of (c122 D.d122 su sw (by omega)) ?_
        rintro r K ⟨rfl, rfl⟩
        simp (disch := omega) [h10, h14, h16, wrap64]
        exact ⟨i - 1, by omega, j + 1, by omega, by omega⟩
      · simp [h10, h14, h16, hjl, s2.len]
        refine WC.of (known g4.wf) ?_
        rintro v H' rfl
        simp

theorem law109 (D : D109 T) {K : AHeap} {as : List AV} (hw : WF K) (hg : Goods K [.slice (.slice .str)] as) : Calls T 109 as K fun v _ => v = .bool true := by
  obtain ⟨a, r, rfl, g1, rfl⟩ := hg
  obtain ⟨ls, h1, h2, h3⟩ := g1.strss
  have e : maxLen = 2 ^ 63 - 1 := rfl
  exact c109 D hw h1 (by omega) (fun i hi => by have := h3 i hi; omega)
end Go.Am
