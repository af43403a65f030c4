/- The law HeapPlays: all acts. -/
import Derived.Test.YtpdedphkjkhddaaAmHeapR
import Derived.Test.YtpdedphkjkhddaaAmTops
set_option linter.unusedVariables false
set_option linter.unusedSimpArgs false
namespace Go.Am
variable {T : Tab}

/-- An act that comes in. -/
structure Act where
  o : Int
  x : Int
  y : Int
  z : Int
  s : List UInt8
  deriving Inhabited
def encAct (a : Act) : AV := .agg [.int .i64 a.o, .int .i64 a.x, .int .i64 a.y, .int .i64 a.z, .str a.s]
abbrev shA : Sh := .consA (.int .i64) (.consA (.int .i64) (.consA (.int .i64) (.consA (.int .i64) (.consA .str .nilA))))

theorem GoodV.acts {H : AHeap} {a : AV} (h : GoodV H (.slice shA) a) : ∃ l : List Act, Sl encAct 5 H a l := by
  have h : Good H (.slice shA) [a] := h
  obtain ⟨a', l, h1, h2, h3, h4⟩ := h
  cases h1
  obtain ⟨l', q1, q2, q3⟩ := h3.view (enc := encAct) (fun c hc => by
    obtain ⟨c1, d1, rfl, ⟨o, rfl, _⟩, c2, d2, rfl, ⟨x, rfl, _⟩, c3, d3, rfl, ⟨y, rfl, _⟩, c4, d4, rfl, ⟨z, rfl, _⟩, c5, d5, rfl, ⟨s, rfl, _⟩, rfl⟩ := h4 c hc
    exact ⟨⟨o, x, y, z, s⟩, rfl⟩)
  exact ⟨l', q1⟩

theorem c313 (D : D313 T) {H : AHeap} (hw : WF H) {v : AV} {l : List Act} (hl : Sl encAct 5 H v l) : Calls T 313 [v] H fun r K => r = .bool true := by
  refine Calls.fn D.pr D.fn ?_
  simp [ir313, hl.len]
  refine WB.dec ?_ ?_
  · intro h0
    simp
    refine WC.of (c319 D.d319 hw) ?_
    rintro r K rfl
    simp
  · intro h0
    have hb : psem (.bld [.slc none 0 0 none, .slc none 0 0 none] []) [] = some (.agg [.slc none 0 0 none, .slc none 0 0 none]) := by simp [psem_bld', fill]
    simp
    refine WC.of (c320 (tg := fun _ => none) D.d320 0 hw (fun _ _ => rfl)) ?_
    rintro r K ⟨rfl, tg1, u1, h1⟩
    obtain ⟨tg2, u2, h2⟩ := refNew (k := 1) u1.wf u1.ok
    obtain ⟨e1, e2⟩ := upNew (H0 := H) (Fr.refl hw) (fun g j t ht => by cases ht) u1
    obtain ⟨e3, e4⟩ := upNew e1 e2 u2
    have d : Duo H tg2 _ (H.next + 1) K.next Hp.none Rp.none := ⟨e3, u2.ok, e4, h1.other u1.wf (by decide) u2, h2⟩
    simp [hb, AV.cells, AV.cell]
    obtain ⟨b1, hb1⟩ : ∃ b, H.next + 1 = b := ⟨_, rfl⟩
    obtain ⟨b2, hb2⟩ : ∃ b, K.next = b := ⟨_, rfl⟩
    rw [hb1, hb2] at d
    rw [hb1, hb2]
    refine W_loop (fun (i : Nat) e X => e 0 = v ∧ e 3 = .ptr (some (b1, 0)) ∧ e 4 = .ptr (some (b2, 0)) ∧ ∃ j : Nat, i + j = l.length ∧ e 5 = .int .i64 j ∧ ∃ tg S Q, Duo H tg X b1 b2 S Q ∧ Both ((j : Int) + 1) S Q ∧ phi Q ≤ 12 * j) id l.length ?_ ?_
    · exact ⟨by simp, by simp, by simp, 0, by simp, by simp, _, _, _, d, both_none, by decide⟩
    · rintro i e X ⟨x0, x3, x4, j, hj, x5, tg, S, Q, d, hB, hp⟩
      simp [x0, x3, x4, x5, hl.len]
      refine WB.dec ?_ ?_
      · intro hjl
        have hs := hl.fr hw d.fr
        have ia := hs.ia (k := .i64) (i := j) (by omega) (by omega)
        have ld := hs.ldA (i := j) (by omega) (by omega) (cs := [.int .i64 (nth l j).o, .int .i64 (nth l j).x, .int .i64 (nth l j).y, .int .i64 (nth l j).z, .str (nth l j).s]) rfl
        simp [x0, x3, x4, x5, ia, ld]
        refine WC.of (c321 D.d321 d hB (by omega) (by omega) (by omega)) ?_
        rintro r Y ⟨rfl, tg1, S1, Q1, d1, hB1, hp1⟩
        have hp1 : phi Q1 ≤ 12 * (j + 1) := by omega
        by_cases hm : (j : Int).tmod 16 = 0
        · simp [x0, x3, x4, x5, hm]
          refine WC.of (c322 D.d322 d1 hB1 (by omega) (by omega)) ?_
          rintro r Z ⟨rfl, tg2, d2⟩
          simp [x0, x3, x4, x5]
          refine ⟨i - 1, by omega, j + 1, by omega, ?_, _, _, _, d2, ?_, hp1⟩
          · rw [wrap64 (by omega) (by omega)]; simp
          · simpa using hB1
        · simp [x0, x3, x4, x5, hm]
          refine ⟨i - 1, by omega, j + 1, by omega, ?_, _, _, _, d1, ?_, hp1⟩
          · rw [wrap64 (by omega) (by omega)]; simp
          · simpa using hB1
      · intro hjl
        simp [x3, x4]
        refine WC.of (c322 D.d322 d hB (by omega) (by omega)) ?_
        rintro r Z ⟨rfl, tg2, d2⟩
        simp
        refine WC.of (c319 D.d319 d2.fr.wf) ?_
        rintro r Z' rfl
        simp

theorem law313 (D : D313 T) {K : AHeap} {as : List AV} (hw : WF K) (hg : Goods K [.slice shA] as) : Calls T 313 as K fun v _ => v = .bool true := by
  obtain ⟨a, r, rfl, g1, rfl⟩ := hg
  obtain ⟨l, hl⟩ := g1.acts
  exact c313 D hw hl
end Go.Am
