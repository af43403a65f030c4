/- The laws of package big: powers and roots. -/
import Derived.Test.YtdgkaachkodimaaDoorAmRfs
import Derived.Test.YtdgkaachkodimaaDoorAmTops
set_option linter.unusedVariables false
set_option linter.unusedSimpArgs false
namespace Go.Am
variable {T : Tab}
theorem RootQ.uniq {a : List UInt8} {n : Int} {r r' : AV} (h : RootQ a n r) (k : RootQ a n r') : ∃ s t : List UInt8, ∃ e : Int, r = .tup [.str s, .str t, .int .i64 e] ∧ r' = .tup [.str s, .str t, .int .i64 e] := by
  obtain ⟨s, t, e, rfl, h1, h2, h3⟩ := h
  obtain ⟨s', t', e', rfl, k1, k2, k3⟩ := k
  by_cases he : errS [a] = 0
  · by_cases hb : n < 1 ∨ 50 < n ∨ bel (rdS a) = true
    · obtain ⟨rfl, rfl, rfl⟩ := h2 he hb
      obtain ⟨rfl, rfl, rfl⟩ := k2 he hb
      exact ⟨_, _, _, rfl, rfl⟩
    · obtain ⟨rfl, v, hv, rfl, rfl⟩ := h3 he hb
      obtain ⟨rfl, w, hw, rfl, rfl⟩ := k3 he hb
      have := hv.uniq hw
      subst this
      exact ⟨_, _, _, rfl, rfl⟩
  · obtain ⟨rfl, rfl, rfl⟩ := h1 he
    obtain ⟨rfl, rfl, rfl⟩ := k1 he
    exact ⟨_, _, _, rfl, rfl⟩
theorem read_dig2 {s : List UInt8} {z : Int} (h : readS s = some z) : (dig z.natAbs).length ≤ s.length := by
  obtain ⟨d, neg, hs, hd, _, hz, _⟩ := readS_parts h
  have := (dl_fd d.length d rfl hd).2
  rw [hz, sgn_abs, hs, List.length_append]
  have := dig_len_le this
  omega
theorem c405 (Dt : D405 T) {H : AHeap} (hw : WF H) {a : List UInt8} {n : Int} : Calls T 405 [.str a, .int .i64 n] H fun r _ => r = .bool true := by
  refine Calls.fn Dt.pr Dt.fn ?_
  have F := Fx.start hw (D := fun _ => False) (fun _ h => h.elim) (ps := []) trivial
  have kn : ∀ {X : AHeap}, WF X → Calls T 412 [] X fun r X' => Fr X X' ∧ r = .bool true := fun h => c412 Dt.d412 h
  simp [ir405]
  refine WC.of (c411 Dt.d411 F.wf) ?_
  rintro r1 X1 ⟨fr1, rfl⟩
  have F1 := F.call fr1
  by_cases ha : 5000 < a.length
  · simp [ha]
    refine WC.of (kn F1.wf) ?_
    rintro r2 X2 ⟨fr2, rfl⟩
    simp
  have la : a.length < 2 ^ 40 := by omega
  simp [ha]
  refine WC.of (c419 Dt.d419 F1.wf la) ?_
  rintro r2 X2 ⟨fr2, rfl⟩
  have F2 := F1.call fr2
  obtain ⟨P, hP⟩ : ∃ P, powS a n = P := ⟨_, rfl⟩
  rw [hP]
  simp
  refine WC.of (c420 Dt.d420 F2.wf la) ?_
  rintro r3 X3 ⟨fr3, rfl⟩
  have F3 := F2.call fr3
  rw [hP]
  have tail : ∀ {X : AHeap}, WF X → (errS [a] = 0 → (dig (rdS a).natAbs).length ≤ 399) → Calls T 422 [.str a, .int .i64 n] X fun r X' => Fr X X' ∧ RootQ a n r := fun h hs => c422 Dt.d422 h la hs
  by_cases h150 : 150 < a.length
  · have h150' : (150 : Int) < (a.length : Int) := by omega
    simp [h150, h150']
    refine WC.of (c421 Dt.d421 la) ?_
    rintro r4 X4 ⟨rfl, rfl⟩
    cases hr : (readS a).isSome with
    | true =>
      simp
      refine WC.of (kn F3.wf) ?_
      rintro r5 X5 ⟨fr5, rfl⟩
      simp
    | false =>
      simp
      have hs : errS [a] = 0 → (dig (rdS a).natAbs).length ≤ 399 := fun he => by
        have := errS_some1 he
        rw [hr] at this; cases this
      refine WC.of (tail F3.wf hs) ?_
      rintro r5 X5 ⟨fr5, h5⟩
      have F5 := F3.call fr5
      have h5' := h5
      obtain ⟨s, t, e, rfl, _⟩ := h5'
      simp
      refine WC.of (c423 Dt.d423 F5.wf la) ?_
      rintro r6 X6 ⟨fr6, h6⟩
      have F6 := F5.call fr6
      obtain ⟨s', t', e', q1, rfl⟩ := RootQ.uniq h5 h6
      simp only [AV.tup.injEq, List.cons.injEq, AV.str.injEq, AV.int.injEq, true_and, and_true] at q1
      obtain ⟨rfl, rfl, rfl⟩ := q1
      simp
      refine WC.of (kn F6.wf) ?_
      rintro r7 X7 ⟨fr7, rfl⟩
      simp
  · have h150' : ¬ (150 : Int) < (a.length : Int) := by omega
    have hs : errS [a] = 0 → (dig (rdS a).natAbs).length ≤ 399 := fun he => by
      have := read_dig2 (errS_in he (s := a) (by simp))
      omega
    simp [h150, h150']
    refine WC.of (tail F3.wf hs) ?_
    rintro r5 X5 ⟨fr5, h5⟩
    have F5 := F3.call fr5
    have h5' := h5
    obtain ⟨s, t, e, rfl, _⟩ := h5'
    simp
    refine WC.of (c423 Dt.d423 F5.wf la) ?_
    rintro r6 X6 ⟨fr6, h6⟩
    have F6 := F5.call fr6
    obtain ⟨s', t', e', q1, rfl⟩ := RootQ.uniq h5 h6
    simp only [AV.tup.injEq, List.cons.injEq, AV.str.injEq, AV.int.injEq, true_and, and_true] at q1
    obtain ⟨rfl, rfl, rfl⟩ := q1
    simp
    refine WC.of (kn F6.wf) ?_
    rintro r7 X7 ⟨fr7, rfl⟩
    simp
theorem law405 (D : D405 T) {K : AHeap} {as : List AV} (hw : WF K) (hg : Goods K [.str, .int .i64] as) : Calls T 405 as K fun v _ => v = .bool true := by
  obtain ⟨a, r, rfl, g1, b, r2, rfl, g2, rfl⟩ := hg
  obtain ⟨a, ha, _⟩ := g1
  obtain ⟨b, hb, _⟩ := g2
  simp only [List.cons.injEq, and_true] at ha hb
  subst ha hb
  exact c405 D hw
end Go.Am
