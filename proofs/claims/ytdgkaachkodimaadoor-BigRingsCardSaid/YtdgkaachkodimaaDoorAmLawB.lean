/- The laws of package big: division gives back what was divided; products and sums. -/
import Derived.Test.YtdgkaachkodimaaDoorAmText
import Derived.Test.YtdgkaachkodimaaDoorAmTops
set_option linter.unusedVariables false
set_option linter.unusedSimpArgs false
namespace Go.Am
variable {T : Tab}
theorem outS_cases (z : Int) : outS z = (3, []) ∨ (outS z = (0, showS z) ∧ (dig z.natAbs).length ≤ 400) := by
  unfold outS
  cases h : bigZ z with
  | true => left; rfl
  | false =>
    right
    unfold bigZ at h
    exact ⟨rfl, by simpa using h⟩
theorem rd_ok {a : List UInt8} {x : Int} (h : readS a = some x) : rdS a = x := by unfold rdS; rw [h]; rfl
theorem opS_of {op : Int → Int → Int} {a b : List UInt8} {x y : Int} (ha : readS a = some x) (hb : readS b = some y) : opS op a b = outS (op x y) := by
  have e : errS [a, b] = 0 := errS_of fun s hs => by
    simp at hs
    rcases hs with rfl | rfl
    · exact ⟨_, ha⟩
    · exact ⟨_, hb⟩
  unfold opS
  rw [if_pos e, rd_ok ha, rd_ok hb]
theorem opS_ok {op : Int → Int → Int} {a b : List UInt8} (h : (opS op a b).1 = 0) :
    errS [a, b] = 0 ∧ opS op a b = (0, showS (op (rdS a) (rdS b))) ∧ (dig (op (rdS a) (rdS b)).natAbs).length ≤ 400 := by
  unfold opS at h ⊢
  split at h
  · rename_i he
    rw [if_pos he]
    refine ⟨he, ?_⟩
    rcases outS_cases (op (rdS a) (rdS b)) with h1 | h1
    · rw [h1] at h; exact absurd h (by decide)
    · exact h1
  · rename_i he
    exact absurd h he
theorem c404 (Dt : D404 T) {H : AHeap} (hw : WF H) {a b c : List UInt8} : Calls T 404 [.str a, .str b, .str c] H fun r _ => r = .bool true := by
  refine Calls.fn Dt.pr Dt.fn ?_
  have F := Fx.start hw (D := fun _ => False) (fun _ h => h.elim) (ps := []) trivial
  have kn : ∀ {X : AHeap}, WF X → Calls T 412 [] X fun r X' => Fr X X' ∧ r = .bool true := fun h => c412 Dt.d412 h
  simp [ir404]
  refine WC.of (c411 Dt.d411 F.wf) ?_
  rintro r1 X1 ⟨fr1, rfl⟩
  have F1 := F.call fr1
  by_cases ha : 5000 < a.length
  · simp [ha]
    refine WC.of (kn F1.wf) ?_
    rintro r2 X2 ⟨fr2, rfl⟩
    simp
  simp [ha]
  refine WC.of (c411 Dt.d411 F1.wf) ?_
  rintro r2 X2 ⟨fr2, rfl⟩
  have F2 := F1.call fr2
  by_cases hb : 5000 < b.length
  · simp [hb]
    refine WC.of (kn F2.wf) ?_
    rintro r3 X3 ⟨fr3, rfl⟩
    simp
  simp [hb]
  refine WC.of (c411 Dt.d411 F2.wf) ?_
  rintro r3 X3 ⟨fr3, rfl⟩
  have F3 := F2.call fr3
  by_cases hc : 5000 < c.length
  · simp [hc]
    refine WC.of (kn F3.wf) ?_
    rintro r4 X4 ⟨fr4, rfl⟩
    simp
  have la : a.length < 2 ^ 40 := by omega
  have lb : b.length < 2 ^ 40 := by omega
  have lc : c.length < 2 ^ 40 := by omega
  simp [hc]
  refine WC.of (c417 Dt.d417 F3.wf la lb) ?_
  rintro r4 X4 ⟨fr4, rfl⟩
  have F4 := F3.call fr4
  simp
  refine WC.of (c417 Dt.d417 F4.wf lb lc) ?_
  rintro r5 X5 ⟨fr5, rfl⟩
  have F5 := F4.call fr5
  have o1 := opS_ok (op := (· * ·)) (a := a) (b := b)
  have o2 := opS_ok (op := (· * ·)) (a := b) (b := c)
  obtain ⟨P, hP⟩ : ∃ P, opS (· * ·) a b = P := ⟨_, rfl⟩
  obtain ⟨Q, hQ⟩ : ∃ Q, opS (· * ·) b c = Q := ⟨_, rfl⟩
  rw [hP] at o1 ⊢
  rw [hQ] at o2 ⊢
  by_cases hp0 : P.1 = 0
  rotate_left
  · simp [hp0]
    refine WC.of (kn F5.wf) ?_
    rintro r6 X6 ⟨fr6, rfl⟩
    simp
  by_cases hq0 : Q.1 = 0
  rotate_left
  · simp [hp0, hq0]
    refine WC.of (kn F5.wf) ?_
    rintro r6 X6 ⟨fr6, rfl⟩
    simp
  obtain ⟨e1, rfl, l1⟩ := o1 hp0
  obtain ⟨e2, rfl, l2⟩ := o2 hq0
  have ra := errS_in e1 (s := a) (by simp)
  have rb := errS_in e1 (s := b) (by simp)
  have rc := errS_in e2 (s := c) (by simp)
  obtain ⟨x, hx⟩ : ∃ x, rdS a = x := ⟨_, rfl⟩
  obtain ⟨y, hy⟩ : ∃ y, rdS b = y := ⟨_, rfl⟩
  obtain ⟨z, hz⟩ : ∃ z, rdS c = z := ⟨_, rfl⟩
  rw [hx] at ra
  rw [hy] at rb
  rw [hz] at rc
  simp only [hx, hy, hz] at l1 l2 ⊢
  clear hP hQ hp0 hq0 o1 o2
  simp
  refine WC.of (c417 Dt.d417 F5.wf (a := showS (x * y)) (b := c) (by have := show_len l1; omega) lc) ?_
  rintro r6 X6 ⟨fr6, rfl⟩
  have F6 := F5.call fr6
  rw [opS_of (read_show l1) rc]
  simp
  refine WC.of (c417 Dt.d417 F6.wf (a := a) (b := showS (y * z)) la (by have := show_len l2; omega)) ?_
  rintro r7 X7 ⟨fr7, rfl⟩
  have F7 := F6.call fr7
  rw [opS_of ra (read_show l2)]
  simp only [Int.mul_assoc]
  simp
  refine WC.of (c418 Dt.d418 F7.wf (a := a) (b := c) la lc) ?_
  rintro r8 X8 ⟨fr8, rfl⟩
  have F8 := F7.call fr8
  rw [opS_of ra rc]
  rcases outS_cases (x + z) with h3 | ⟨h3, l3⟩
  · rw [h3]
    simp
    refine WC.of (kn F8.wf) ?_
    rintro r9 X9 ⟨fr9, rfl⟩
    simp
  rw [h3]
  simp
  refine WC.of (c417 Dt.d417 F8.wf (a := showS (x + z)) (b := b) (by have := show_len l3; omega) lb) ?_
  rintro r9 X9 ⟨fr9, rfl⟩
  have F9 := F8.call fr9
  rw [opS_of (read_show l3) rb]
  simp
  refine WC.of (c418 Dt.d418 F9.wf (a := showS (x * y)) (b := showS (y * z)) (by have := show_len l1; omega) (by have := show_len l2; omega)) ?_
  rintro r10 X10 ⟨fr10, rfl⟩
  have F10 := F9.call fr10
  rw [opS_of (read_show l1) (read_show l2)]
  have hd : (x + z) * y = x * y + y * z := by rw [Int.add_mul, Int.mul_comm z y]
  simp only [hd]
  obtain ⟨S, hS⟩ : ∃ S, outS (x * y + y * z) = S := ⟨_, rfl⟩
  rw [hS]
  by_cases hs0 : S.1 = 0
  · simp [hs0]
    refine WC.of (kn F10.wf) ?_
    rintro r11 X11 ⟨fr11, rfl⟩
    simp
  · simp [hs0]
    refine WC.of (kn F10.wf) ?_
    rintro r11 X11 ⟨fr11, rfl⟩
    simp
theorem law404 (D : D404 T) {K : AHeap} {as : List AV} (hw : WF K) (hg : Goods K [.str, .str, .str] as) : Calls T 404 as K fun v _ => v = .bool true := by
  obtain ⟨a, r, rfl, g1, b, r2, rfl, g2, c, r3, rfl, g3, rfl⟩ := hg
  obtain ⟨a, ha, _⟩ := g1
  obtain ⟨b, hb, _⟩ := g2
  obtain ⟨c, hc, _⟩ := g3
  simp only [List.cons.injEq, and_true] at ha hb hc
  subst ha hb hc
  exact c404 D hw
end Go.Am
