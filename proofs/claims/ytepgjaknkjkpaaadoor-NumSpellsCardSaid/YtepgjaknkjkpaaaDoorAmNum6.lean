/- The laws of numbers: what looks like one, what operations give, that division is the division, how numbers and texts are compared. -/
import Derived.Test.YtepgjaknkjkpaaaDoorAmNum5
set_option linter.unusedVariables false
set_option linter.unusedSimpArgs false
namespace Go.Am
variable {T : Tab}

theorem c240 (D : D240 T) {H : AHeap} {s : List UInt8} : Calls T 240 [.str s] H fun r H' => H' = H ∧ r = .bool (decide ((16384 : Int) < s.length)) := by
  refine Calls.fn D.pr D.fn ?_
  simp [ir240]

theorem known_num : numR ⟨2, 0, [32,32,45,49,50,97,98,99], false⟩ = (-12, 0) := by decide
theorem known_do : doR 3 (-7) 2 = (-4, 0, 0) := by decide
theorem known_looks : looksB [32,32,45,49,50,97,98,99] = false := by decide

theorem c241 (D : D241 T) {H : AHeap} (hw : WF H) : Calls T 241 [] H fun r _ => r = .bool true := by
  refine Calls.fn D.pr D.fn ?_
  have hb : psem (.bld [(.int .i64 0),(.int .i64 0),(.str []),(.bool false)] [(0,1),(2,1)]) [.int .i64 2, .str [32,32,45,49,50,97,98,99]] = some (encC ⟨2, 0, [32,32,45,49,50,97,98,99], false⟩) := by
    simp [psem_bld', fill, AV.cells, AV.cell, splice]
  simp [ir241, hb]
  refine WC.of (c170 D.d170 hw (x := ⟨2, 0, [32,32,45,49,50,97,98,99], false⟩)) ?_
  rintro r H1 ⟨f1, rfl⟩
  rw [known_num]
  simp
  refine WC.of (c167 D.d167 f1.wf) ?_
  rintro r H2 ⟨f2, rfl⟩
  rw [known_do]
  simp
  refine WC.of (c242 D.d242 (by simp)) ?_
  rintro r H2 ⟨rfl, rfl⟩
  rw [known_looks]
  simp

theorem c232 (D : D232 T) {H : AHeap} (hw : WF H) {s : List UInt8} : Calls T 232 [.str s] H fun r _ => r = .bool true := by
  refine Calls.fn D.pr D.fn ?_
  simp [ir232]
  refine WC.of (c240 D.d240) ?_
  rintro r H ⟨rfl, rfl⟩
  simp
  refine WB.bool ?_ ?_
  · intro h
    simp
    refine WC.of (c241 D.d241 hw) ?_
    rintro r H' rfl
    simp
  · intro h
    simp at h
    simp
    refine WC.of (c242 D.d242 (by omega)) ?_
    rintro r H ⟨rfl, rfl⟩
    simp
    refine WC.of (c243 D.d243 (by omega)) ?_
    rintro r H ⟨rfl, rfl⟩
    simp
    refine WC.of (c241 D.d241 hw) ?_
    rintro r H' rfl
    simp

theorem law232 (D : D232 T) {K : AHeap} {as : List AV} (hw : WF K) (hg : Goods K [.str] as) : Calls T 232 as K fun v _ => v = .bool true := by
  obtain ⟨a, r, rfl, g1, rfl⟩ := hg
  obtain ⟨s, rfl, _⟩ := g1.str
  exact c232 D hw

theorem c233 (D : D233 T) {H : AHeap} (hw : WF H) {op a b : Int} : Calls T 233 [.int .i64 op, .int .i64 a, .int .i64 b] H fun r _ => r = .bool true := by
  refine Calls.fn D.pr D.fn ?_
  simp [ir233]
  refine WC.of (c166 D.d166) ?_
  rintro r H ⟨rfl, rfl⟩
  simp
  refine WC.of (c167 D.d167 hw) ?_
  rintro r H1 ⟨f1, rfl⟩
  simp
  refine WC.of (c241 D.d241 f1.wf) ?_
  rintro r H' rfl
  simp

theorem law233 (D : D233 T) {K : AHeap} {as : List AV} (hw : WF K) (hg : Goods K [.int .i64, .int .i64, .int .i64] as) : Calls T 233 as K fun v _ => v = .bool true := by
  obtain ⟨a, r, rfl, g1, b, r2, rfl, g2, c, r3, rfl, g3, rfl⟩ := hg
  obtain ⟨a, rfl, _⟩ := g1.int
  obtain ⟨b, rfl, _⟩ := g2.int
  obtain ⟨c, rfl, _⟩ := g3.int
  exact c233 D hw

theorem c234 (D : D234 T) {H : AHeap} (hw : WF H) {a b : Int} : Calls T 234 [.int .i64 a, .int .i64 b] H fun r _ => r = .bool true := by
  refine Calls.fn D.pr D.fn ?_
  have known : ∀ {X : AHeap}, WF X → Calls T 241 [] X fun v _ => v = .bool true := fun h => c241 D.d241 h
  simp [ir234]
  refine WC.of (c167 D.d167 hw) ?_
  rintro r H1 ⟨f1, rfl⟩
  simp
  refine WC.of (c167 D.d167 f1.wf) ?_
  rintro r H2 ⟨f2, rfl⟩
  by_cases hg : inN a ∧ inN b
  · obtain ⟨ha, hb⟩ := hg
    have e3 : doR 3 a b = ((if b = 0 then (0, 2) else lim (floorR a b).1).1, (if b = 0 then (0, 2) else lim (floorR a b).1).2, 0) := by unfold doR; rw [if_neg (by simp [ha, hb])]; rfl
    have e4 : doR 4 a b = ((if b = 0 then (0, 2) else lim (floorR a b).2).1, (if b = 0 then (0, 2) else lim (floorR a b).2).2, 0) := by unfold doR; rw [if_neg (by simp [ha, hb])]; rfl
    by_cases h0 : b = 0
    · have e3 : doR 3 a b = (0, 2, 0) := by rw [e3]; simp [h0]
      have e4 : doR 4 a b = (0, 2, 0) := by rw [e4]; simp [h0]
      rw [e3, e4]
      simp [h0]
      refine WC.of (known f2.wf) ?_
      rintro r H' rfl
      simp
    · have hl := floorR_law (a := a) h0
      have hs := floorR_small (a := a) h0
      have ha' := ha
      have hb' := hb
      unfold inN at ha' hb'
      obtain ⟨p, hp⟩ : ∃ p, b * (floorR a b).1 = p := ⟨_, rfl⟩
      rw [hp] at hl
      -- a quotient by a number of size at least 2 is smaller; by 1 or -1 it is the number itself
      have hq : inN (floorR a b).1 := by
        unfold inN
        have hr := hl.1
        have hlt := hs.2
        have hsz := hs.1
        rcases Int.lt_or_le (floorR a b).1 (-9007199254740992) with h | h
        · have : (floorR a b).1 = -9007199254740993 := by omega
          rw [this] at hp
          omega
        · rcases Int.lt_or_le 9007199254740992 (floorR a b).1 with h2 | h2
          · have : (floorR a b).1 = 9007199254740993 := by omega
            rw [this] at hp
            omega
          · omega
      have hr : inN (floorR a b).2 := by unfold inN; omega
      have e3 : doR 3 a b = ((floorR a b).1, 0, 0) := by rw [e3]; simp [h0, lim, hq]
      have e4 : doR 4 a b = ((floorR a b).2, 0, 0) := by rw [e4]; simp [h0, lim, hr]
      rw [e3, e4]
      obtain ⟨q, hq2⟩ : ∃ q, (floorR a b).1 = q := ⟨_, rfl⟩
      obtain ⟨m, hm⟩ : ∃ m, (floorR a b).2 = m := ⟨_, rfl⟩
      rw [hm] at hl
      rw [hq2] at hp
      rw [hq2, hm]
      rw [hm] at hr hs
      unfold inN at hr
      have wp : IntKind.i64.wrap p = p := wrap64 (by omega) (by omega)
      simp
      simp (disch := omega) [h0, hp, wp, wrap64, hl.1]
      by_cases hm0 : m = 0
      · simp [hm0]
        refine WC.of (known f2.wf) ?_
        rintro r H' rfl
        simp
      · have h2 := hl.2.resolve_left hm0
        simp [hm0, h2.1]
        refine WC.of (c194 D.d194 (by omega) (by omega)) ?_
        rintro r H2 ⟨rfl, rfl⟩
        simp
        refine WC.of (c194 D.d194 (by omega) (by omega)) ?_
        rintro r H2 ⟨rfl, rfl⟩
        simp [show max m (-m) < max b (-b) by omega]
        refine WC.of (known f2.wf) ?_
        rintro r H' rfl
        simp
  · have e3 : doR 3 a b = (0, 0, 1) := by unfold doR; rw [if_pos]; by_cases ha : inN a <;> by_cases hb : inN b <;> simp_all
    have e4 : doR 4 a b = (0, 0, 1) := by unfold doR; rw [if_pos]; by_cases ha : inN a <;> by_cases hb : inN b <;> simp_all
    rw [e3, e4]
    simp
    refine WC.of (known f2.wf) ?_
    rintro r H' rfl
    simp

theorem law234 (D : D234 T) {K : AHeap} {as : List AV} (hw : WF K) (hg : Goods K [.int .i64, .int .i64] as) : Calls T 234 as K fun v _ => v = .bool true := by
  obtain ⟨a, r, rfl, g1, b, r2, rfl, g2, rfl⟩ := hg
  obtain ⟨a, rfl, _⟩ := g1.int
  obtain ⟨b, rfl, _⟩ := g2.int
  exact c234 D hw

theorem cmpZ_neg (a b : Int) : cmpZ b a = -cmpZ a b ∧ -1 ≤ cmpZ a b ∧ cmpZ a b ≤ 1 := by
  unfold cmpZ
  by_cases h1 : a < b <;> by_cases h2 : b < a <;> simp [h1, h2] <;> omega

theorem c237 (D : D237 T) {H : AHeap} (hw : WF H) {a b : Int} : Calls T 237 [.int .i64 a, .int .i64 b] H fun r _ => r = .bool true := by
  refine Calls.fn D.pr D.fn ?_
  obtain ⟨e1, e2, e3⟩ := cmpZ_neg a b
  simp [ir237]
  refine WC.of (c160 D.d160) ?_
  rintro r H ⟨rfl, rfl⟩
  simp
  refine WC.of (c176 D.d176) ?_
  rintro r H ⟨rfl, rfl⟩
  simp
  refine WC.of (c160 D.d160) ?_
  rintro r H ⟨rfl, rfl⟩
  simp
  refine WC.of (c160 D.d160) ?_
  rintro r H ⟨rfl, rfl⟩
  simp (disch := omega) [e1, wrap64]
  refine WC.of (c241 D.d241 hw) ?_
  rintro r H' rfl
  simp

theorem law237 (D : D237 T) {K : AHeap} {as : List AV} (hw : WF K) (hg : Goods K [.int .i64, .int .i64] as) : Calls T 237 as K fun v _ => v = .bool true := by
  obtain ⟨a, r, rfl, g1, b, r2, rfl, g2, rfl⟩ := hg
  obtain ⟨a, rfl, _⟩ := g1.int
  obtain ⟨b, rfl, _⟩ := g2.int
  exact c237 D hw

theorem cb_neg : ∀ a b : List UInt8, cmpB b a = -cmpB a b ∧ -1 ≤ cmpB a b ∧ cmpB a b ≤ 1
  | [], [] => by simp [Lib.compareBytes]
  | [], _ :: _ => by simp [Lib.compareBytes]
  | _ :: _, [] => by simp [Lib.compareBytes]
  | x :: a, y :: b => by
    have ih := cb_neg a b
    show Lib.compareBytes (y :: b) (x :: a) = -Lib.compareBytes (x :: a) (y :: b) ∧ -1 ≤ Lib.compareBytes (x :: a) (y :: b) ∧ Lib.compareBytes (x :: a) (y :: b) ≤ 1
    by_cases h1 : x < y
    · have h2 : ¬ y < x := fun h => UInt8.lt_irrefl _ (UInt8.lt_trans h h1)
      have e1 : Lib.compareBytes (x :: a) (y :: b) = -1 := by simp [Lib.compareBytes, h1]
      have e2 : Lib.compareBytes (y :: b) (x :: a) = 1 := by simp [Lib.compareBytes, h1, h2]
      omega
    · by_cases h2 : y < x
      · have e1 : Lib.compareBytes (x :: a) (y :: b) = 1 := by simp [Lib.compareBytes, h1, h2]
        have e2 : Lib.compareBytes (y :: b) (x :: a) = -1 := by simp [Lib.compareBytes, h2]
        omega
      · simp only [Lib.compareBytes, h1, h2, if_false]; exact ih

theorem c244 (D : D244 T) {H : AHeap} {a b : List UInt8} : Calls T 244 [.str a, .str b] H fun r H' => H' = H ∧ r = .int .i64 (cmpB a b) := by
  refine Calls.fn D.pr D.fn ?_
  simp [ir244]
  refine WC.of (c158 D.d158) ?_
  rintro r H ⟨rfl, rfl⟩
  simp

theorem c235 (D : D235 T) {H : AHeap} (hw : WF H) {s t : List UInt8} : Calls T 235 [.str s, .str t] H fun r _ => r = .bool true := by
  refine Calls.fn D.pr D.fn ?_
  have known : ∀ {X : AHeap}, WF X → Calls T 241 [] X fun v _ => v = .bool true := fun h => c241 D.d241 h
  obtain ⟨e1, e2, e3⟩ := cb_neg s t
  simp [ir235]
  refine WC.of (c240 D.d240) ?_
  rintro r H ⟨rfl, rfl⟩
  by_cases h1 : (16384 : Int) < s.length
  · simp [h1]
    refine WC.of (known hw) ?_
    rintro r H' rfl
    simp
  simp [h1]
  refine WC.of (c240 D.d240) ?_
  rintro r H ⟨rfl, rfl⟩
  by_cases h2 : (16384 : Int) < t.length
  · simp [h2]
    refine WC.of (known hw) ?_
    rintro r H' rfl
    simp
  simp [h2]
  refine WC.of (c244 D.d244) ?_
  rintro r H ⟨rfl, rfl⟩
  simp
  refine WC.of (c155 D.d155 (by omega)) ?_
  rintro r H ⟨rfl, rfl⟩
  simp
  refine WC.of (c244 D.d244) ?_
  rintro r H ⟨rfl, rfl⟩
  simp
  refine WC.of (c244 D.d244) ?_
  rintro r H ⟨rfl, rfl⟩
  simp (disch := omega) [e1, wrap64]
  refine WC.of (known hw) ?_
  rintro r H' rfl
  simp

theorem law235 (D : D235 T) {K : AHeap} {as : List AV} (hw : WF K) (hg : Goods K [.str, .str] as) : Calls T 235 as K fun v _ => v = .bool true := by
  obtain ⟨a, r, rfl, g1, b, r2, rfl, g2, rfl⟩ := hg
  obtain ⟨s, rfl, _⟩ := g1.str
  obtain ⟨t, rfl, _⟩ := g2.str
  exact c235 D hw
end Go.Am
