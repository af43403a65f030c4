/- The laws of package big: division gives back what was divided; products and sums. -/
import Derived.Test.YtdgkaachkodimaaDoorAmText
import Derived.Test.YtdgkaachkodimaaDoorAmTops
set_option linter.unusedVariables false
set_option linter.unusedSimpArgs false
namespace Go.Am
variable {T : Tab}
theorem outS_cases (z : Int) : outS z = (3, []) ∨ (outS z = (0, showS z) ∧ (dig z.natAbs).length ≤ 400) := by
  unfold outS
  cases h : bigZ z with
  | true => left; rfl
  | false =>
    right
    unfold bigZ at h
    exact ⟨rfl, by simpa using h⟩
theorem outS_ok {z : Int} (h : (dig z.natAbs).length ≤ 400) : outS z = (0, showS z) := by
  have : bigZ z = false := by unfold bigZ; simp; exact h
  unfold outS; rw [this]; rfl
theorem rd_ok {a : List UInt8} {x : Int} (h : readS a = some x) : rdS a = x := by unfold rdS; rw [h]; rfl
theorem opS_of {op : Int → Int → Int} {a b : List UInt8} {x y : Int} (ha : readS a = some x) (hb : readS b = some y) : opS op a b = outS (op x y) := by
  have e : errS [a, b] = 0 := errS_of fun s hs => by
    simp at hs
    rcases hs with rfl | rfl
    · exact ⟨_, ha⟩
    · exact ⟨_, hb⟩
  unfold opS
  rw [if_pos e, rd_ok ha, rd_ok hb]
theorem divS_ok {a b : List UInt8} (h : (divS a b).1 = 0) :
    errS [a, b] = 0 ∧ rdS b ≠ 0 ∧ (divS a b).2.1 = showS (qd (rdS a) (rdS b)) ∧ (divS a b).2.2 = showS (md (rdS a) (rdS b)) ∧ (dig (qd (rdS a) (rdS b)).natAbs).length ≤ 400 ∧ (dig (md (rdS a) (rdS b)).natAbs).length ≤ 400 := by
  unfold divS outS2 at h ⊢
  split at h
  · rename_i he
    rw [if_pos he]
    split at h
    · exact absurd h (by decide)
    · rename_i hb
      rw [if_neg hb]
      split at h
      · exact absurd h (by decide)
      · rename_i hz
        rw [if_neg hz]
        simp only [Bool.or_eq_true, not_or] at hz
        obtain ⟨z1, z2⟩ := hz
        unfold bigZ at z1 z2
        exact ⟨he, hb, rfl, rfl, by simpa using z1, by simpa using z2⟩
  · rename_i he
    exact absurd h he
/-- Division and back. -/
theorem div_back {a b : List UInt8} (h : (divS a b).1 = 0) :
    (opS (· * ·) b (divS a b).2.1).1 = 3 ∨ ((opS (· * ·) b (divS a b).2.1).1 = 0 ∧ opS (· + ·) (opS (· * ·) b (divS a b).2.1).2 (divS a b).2.2 = (0, a)) := by
  obtain ⟨he, hb, e1, e2, l1, l2⟩ := divS_ok h
  have ra := errS_in he (s := a) (by simp)
  have rb := errS_in he (s := b) (by simp)
  rw [e1, e2, opS_of rb (read_show l1)]
  rcases outS_cases (rdS b * qd (rdS a) (rdS b)) with h1 | ⟨h1, l3⟩
  · left; rw [h1]
  · right
    rw [h1]
    refine ⟨rfl, ?_⟩
    simp only
    rw [opS_of (read_show l3) (read_show l2)]
    have : rdS b * qd (rdS a) (rdS b) + md (rdS a) (rdS b) = rdS a := by unfold md; omega
    rw [this, outS_ok (rdS_len a), show_read ra]
theorem opS_len {op : Int → Int → Int} {a b : List UInt8} : (opS op a b).2.length ≤ 401 := by
  unfold opS
  split
  · rcases outS_cases (op (rdS a) (rdS b)) with h | ⟨h, l⟩
    · rw [h]; simp
    · rw [h]; exact show_len l
  · simp
theorem divS_len {a b : List UInt8} : (divS a b).2.1.length ≤ 401 ∧ (divS a b).2.2.length ≤ 401 := by
  by_cases h : (divS a b).1 = 0
  · obtain ⟨he, hb, e1, e2, l1, l2⟩ := divS_ok h
    rw [e1, e2]
    exact ⟨show_len l1, show_len l2⟩
  · unfold divS outS2 at h ⊢
    split
    · rename_i he
      rw [if_pos he] at h
      split
      · simp
      · rename_i hb
        rw [if_neg hb] at h
        split
        · simp
        · rename_i hz
          rw [if_neg hz] at h
          exact absurd rfl h
    · simp
theorem c403 (Dt : D403 T) {H : AHeap} (hw : WF H) {a b : List UInt8} : Calls T 403 [.str a, .str b] H fun r _ => r = .bool true := by
  refine Calls.fn Dt.pr Dt.fn ?_
  have F := Fx.start hw (D := fun _ => False) (fun _ h => h.elim) (ps := []) trivial
  have kn : ∀ {X : AHeap}, WF X → Calls T 412 [] X fun r X' => Fr X X' ∧ r = .bool true := fun h => c412 Dt.d412 h
  simp [ir403]
  refine WC.of (c411 Dt.d411 F.wf) ?_
  rintro r1 X1 ⟨fr1, rfl⟩
  have F1 := F.call fr1
  by_cases ha : 5000 < a.length
  · simp [ha]
    refine WC.of (kn F1.wf) ?_
    rintro r2 X2 ⟨fr2, rfl⟩
    simp
  · simp [ha]
    refine WC.of (c411 Dt.d411 F1.wf) ?_
    rintro r2 X2 ⟨fr2, rfl⟩
    have F2 := F1.call fr2
    by_cases hb : 5000 < b.length
    · simp [hb]
      refine WC.of (kn F2.wf) ?_
      rintro r3 X3 ⟨fr3, rfl⟩
      simp
    · have la : a.length < 2 ^ 40 := by omega
      have lb : b.length < 2 ^ 40 := by omega
      simp [hb]
      refine WC.of (c415 Dt.d415 F2.wf la lb) ?_
      rintro r3 X3 ⟨fr3, rfl⟩
      have F3 := F2.call fr3
      simp
      refine WC.of (c416 Dt.d416 F3.wf la lb) ?_
      rintro r4 X4 ⟨fr4, rfl⟩
      have F4 := F3.call fr4
      have hback := div_back (a := a) (b := b)
      have hlen := divS_len (a := a) (b := b)
      obtain ⟨dv, hdv⟩ : ∃ dv, divS a b = dv := ⟨_, rfl⟩
      rw [hdv] at hback hlen ⊢
      by_cases h0 : dv.1 = 0
      · simp [h0]
        refine WC.of (c417 Dt.d417 F4.wf (a := b) (b := dv.2.1) lb (by omega)) ?_
        rintro r5 X5 ⟨fr5, rfl⟩
        have F5 := F4.call fr5
        have hl := opS_len (op := (· * ·)) (a := b) (b := dv.2.1)
        replace hback := hback h0
        obtain ⟨P, hP⟩ : ∃ P, opS (· * ·) b dv.2.1 = P := ⟨_, rfl⟩
        rw [hP] at hback hl ⊢
        simp
        refine WC.of (c418 Dt.d418 F5.wf (a := P.2) (b := dv.2.2) (by omega) (by omega)) ?_
        rintro r6 X6 ⟨fr6, rfl⟩
        have F6 := F5.call fr6
        rcases hback with h3 | ⟨h3, h4⟩
        · simp [h3]
          refine WC.of (kn F6.wf) ?_
          rintro r7 X7 ⟨fr7, rfl⟩
          simp
        · rw [h4]
          simp [h3]
          refine WC.of (kn F6.wf) ?_
          rintro r7 X7 ⟨fr7, rfl⟩
          simp
      · simp [h0]
        refine WC.of (kn F4.wf) ?_
        rintro r5 X5 ⟨fr5, rfl⟩
        simp
theorem law403 (D : D403 T) {K : AHeap} {as : List AV} (hw : WF K) (hg : Goods K [.str, .str] as) : Calls T 403 as K fun v _ => v = .bool true := by
  obtain ⟨a, r, rfl, g1, b, r2, rfl, g2, rfl⟩ := hg
  obtain ⟨a, ha, _⟩ := g1
  obtain ⟨b, hb, _⟩ := g2
  simp only [List.cons.injEq, and_true] at ha hb
  subst ha hb
  exact c403 D hw
end Go.Am
