/- The law HeapCounts: what counts looks at. -/
import Derived.Test.YtpdedphkjkhddaaAmHeapU
set_option linter.unusedVariables false
set_option linter.unusedSimpArgs false
namespace Go.Am
variable {T : Tab}

/-! ### One heap on the small machine -/
structure Uno (H0 : AHeap) (tg : Tags) (H : AHeap) (b : Nat) (S : Hp) : Prop where
  fr : Fr H0 H
  ok : TagOk tg H
  new : ∀ g j t, tg g = some (j, t) → H0.next ≤ g
  hp : HpR 0 tg H b 0 S
/-- A map of numbers that is nobody's. -/
structure Mx (tg : Tags) (H : AHeap) (m : Nat) (es : List (Int × Int)) : Prop where
  mp : Mp H m (es.map encE)
  no : tg m = none

section
variable {H0 H K : AHeap} {tg tg' : Tags} {b m : Nat} {S S' : Hp} {es : List (Int × Int)}
theorem Uno.up (d : Uno H0 tg H b S) (u : Up 0 tg tg' H K) (h : HpR 0 tg' K b 0 S') : Uno H0 tg' K b S' := by
  obtain ⟨e1, e2⟩ := upNew d.fr d.new u
  exact ⟨e1, u.ok, e2, h⟩
theorem Uno.free (d : Uno H0 tg H b S) (f : Fr H K) : Uno H0 tg K b S :=
  ⟨d.fr.trans f, fun g hg => d.ok g (Nat.le_trans f.next hg), d.new, d.hp.fr d.fr.wf f⟩
theorem Uno.step (d : Uno H0 tg H b S) (hw : WF K) {n : Nat} (hn : H0.next ≤ n) (k : Keeps (fun g => n ≤ g ∧ tg g = none) H K) : Uno H0 tg K b S :=
  ⟨d.fr.step hw k fun g hg => Nat.le_trans hn hg.1, fun g hg => d.ok g (Nat.le_trans k.next hg), d.new, d.hp.free d.fr.wf k⟩

theorem Mx.up {k : Nat} (h : Mx tg H m es) (hw : WF H) (u : Up k tg tg' H K) : Mx tg' K m es := by
  have hf := h.mp.lt hw
  have hno : ¬tg.own k m := by rintro ⟨t, ht⟩; rw [h.no] at ht; cases ht
  refine ⟨h.mp.keeps u.keeps hno, ?_⟩
  rcases u.tag m with e | ⟨e, _⟩
  · rw [e]; exact h.no
  · rcases e with e | e
    · exact absurd e hno
    · omega
theorem Mx.free (h : Mx tg H m es) (hw : WF H) (f : Fr H K) : Mx tg K m es := ⟨h.mp.keeps f.keeps (by have := h.mp.lt hw; omega), h.no⟩
theorem Mx.step {D : Nat → Prop} (h : Mx tg H m es) (f : Keeps D H K) (hm : ¬D m) : Mx tg K m es := ⟨h.mp.keeps f hm, h.no⟩
theorem Mx.look (h : Mx tg H m es) (a : Int) : rsem (.look .int (.int .i64 0) false) [.map (some m), .int .i64 a] H = some (.int .i64 (rget es a)) := by
  rcases rfind a es 0 with ⟨j, x, h1, h2, _⟩ | ⟨h1, h2, _⟩
  · rw [h.mp.look rfl h1, h2]
  · rw [h.mp.look rfl h1, h2]
theorem Mx.set (h : Mx tg H m es) (hw : WF H) (a w : Int) :
    ∃ K, wsem0 (.mset .int) [.map (some m), .int .i64 a, .int .i64 w] H = some (.undef, K) ∧ WF K ∧ Mx tg K m (rset es a w) ∧ Keeps (fun g => g = m) H K := by
  rcases rfind a es 0 with ⟨j, x, h1, h2, h3, _⟩ | ⟨h1, h2, h3, _⟩
  · obtain ⟨H', q1, q2⟩ := h.mp.mset' hw (v := .int .i64 w) rfl h1
    rw [Nat.zero_add, h3] at q2
    exact ⟨H', q1, q2.wf, ⟨q2.mp, h.no⟩, q2.keeps⟩
  · obtain ⟨H', q1, q2⟩ := h.mp.mset hw (v := .int .i64 w) rfl h1
    rw [h3] at q2
    exact ⟨H', q1, q2.wf, ⟨q2.mp, h.no⟩, q2.keeps⟩
end

/-! ### What is counted -/
def val (Q : Rp) (i : Int) (q : Nat) (a : Int) : Nat := if i < Q.cells.length then refs (Q.cells.take i.toNat) a + cnt ((nth Q.cells i).fs.take q) a else refs Q.cells a

theorem val_end {Q : Rp} (h : Shp Q.cells) {i : Int} (i0 : 0 ≤ i) (a : Int) : val Q i 8 a = val Q (i + 1) 0 a := by
  unfold val
  by_cases h1 : i < Q.cells.length
  · have := h.fl _ (nth_mem i0 h1)
    have e := refs_take (cs := Q.cells) (j := i.toNat) (by omega) a
    rw [show ((i.toNat : Nat) : Int) = i by omega] at e
    rw [if_pos h1, List.take_of_length_le (l := (nth Q.cells i).fs) this, ← e]
    by_cases h2 : i + 1 < Q.cells.length
    · rw [if_pos h2, show (i + 1).toNat = i.toNat + 1 by omega]; simp [cnt]
    · rw [if_neg h2, List.take_of_length_le (by omega)]
  · rw [if_neg h1, if_neg (by omega)]

/-- A field is counted, or it isn't. -/
def counts1 (Q : Rp) (i : Int) (q : Nat) (es : List (Int × Int)) : List (Int × Int) :=
  let g := getR Q.hp i q
  if g.2 = 0 ∧ g.1.is = true ∧ g.1.weak = false then rset es g.1.to (rget es g.1.to + 1) else es

theorem hasFieldR_ok {S : Hp} {i f : Int} (i0 : 0 ≤ i) (i1 : i < S.cells.length) (he : (nth S.cells i).e = false) (f0 : 0 ≤ f) (f1 : f < (nth S.cells i).fs.length) : hasFieldR S i f = 0 := by
  have hh : hasR S i true = 0 := by
    unfold hasR
    rw [if_neg (by omega), if_neg (by rw [he]; simp)]
  unfold hasFieldR
  rw [hh, if_neg (by simp), if_neg (by omega)]

theorem counts1_law {Q : Rp} (d : Dry Q) {i : Int} (i0 : 0 ≤ i) {q : Nat} {es : List (Int × Int)} (h : ∀ a, rget es a = val Q i q a) : ∀ a, rget (counts1 Q i q es) a = val Q i (q + 1) a := by
  intro a
  unfold counts1
  simp only
  by_cases hz : hasFieldR Q.hp i q = 0
  · obtain ⟨_, h1, he, _, hq⟩ := hasFieldR_in hz
    simp only [Rp.hp_cells] at h1 he hq
    have hq : q < (nth Q.cells i).fs.length := by omega
    have hg : getR Q.hp i q = (nth (nth Q.cells i).fs (q : Int), 0) := by unfold getR; rw [if_neg (by simp [hz])]; rfl
    rw [hg]
    have e := cnt_take hq a
    simp only
    unfold val at h ⊢
    have h' := h a
    rw [if_pos h1] at h' ⊢
    rw [e]
    by_cases hs : (nth (nth Q.cells i).fs (q : Int)).is = true ∧ (nth (nth Q.cells i).fs (q : Int)).weak = false
    · rw [if_pos ⟨trivial, hs⟩, rget_rset]
      by_cases ha : a = (nth (nth Q.cells i).fs (q : Int)).to
      · rw [if_pos ha, ← ha, h', if_pos (strong_eq.2 ⟨hs.1, hs.2, ha.symm⟩)]
        simp; omega
      · rw [if_neg ha, h', if_neg (fun e => ha (strong_eq.1 e).2.2.symm)]
        simp
    · rw [if_neg (fun e => hs e.2), h', if_neg (fun e => hs ⟨(strong_eq.1 e).1, (strong_eq.1 e).2.1⟩)]
      simp
  · have hg : (getR Q.hp i q).2 ≠ 0 := by unfold getR; rw [if_pos hz]; exact hz
    rw [if_neg (fun e => hg e.1), h]
    unfold val
    by_cases h1 : i < Q.cells.length
    · rw [if_pos h1, if_pos h1]
      by_cases he : (nth Q.cells i).e = true
      · have hz : ∀ n, cnt ((nth Q.cells i).fs.take n) a = 0 := by
          intro n
          unfold cnt
          rw [List.countP_eq_zero]
          intro x hx
          simp [strongTo, d i i0 h1 he x (List.mem_of_mem_take hx)]
        rw [hz, hz]
      · have hq : ¬ (q : Int) < (nth Q.cells i).fs.length := fun hq => hz (hasFieldR_ok i0 h1 (by simpa using he) (by omega) hq)
        rw [List.take_of_length_le (l := (nth Q.cells i).fs) (i := q) (by omega), List.take_of_length_le (l := (nth Q.cells i).fs) (i := q + 1) (by omega)]
    · rw [if_neg h1, if_neg h1]

theorem val_le {Q : Rp} (h : Shp Q.cells) {i : Int} (i0 : 0 ≤ i) (q : Nat) (a : Int) : val Q i q a ≤ 1000 := by
  unfold val
  have l := h.len
  split
  · rename_i h1'
    have h1 := refs_le (i := a) (take_fl h.fl i.toNat)
    have h2 := cnt_le ((nth Q.cells i).fs.take q) a
    have h3 : (Q.cells.take i.toNat).length ≤ 100 := by rw [List.length_take]; omega
    have := h.fl _ (nth_mem i0 h1')
    rw [List.length_take] at h2
    omega
  · have := refs_le (i := a) h.fl
    omega

theorem counts_wrap {Q : Rp} (h : Shp Q.cells) {i : Int} (i0 : 0 ≤ i) {q : Nat} {es : List (Int × Int)} (hv : ∀ a, rget es a = val Q i q a) (a : Int) : IntKind.i64.wrap (rget es a + 1) = rget es a + 1 := by
  have := val_le h i0 q a
  rw [hv, wrap64 (by omega) (by omega)]

theorem c327 (D : D327 T) {H0 H : AHeap} {tg : Tags} {b m : Nat} {S : Hp} {Q : Rp} {A : Int} {rs : List (Int × Int)} (d : Uno H0 tg H b S) (mx : Mx tg H m rs) (hB : Both A S Q) (hA : A ≤ 2 ^ 40) (hd : Dry Q) (hr : ∀ a, rget rs a = nOf Q a) :
    Calls T 327 [.ptr (some (b, 0)), .map (some m)] H fun r K => r = .bool true ∧ ∃ tg', Uno H0 tg' K b S ∧ Mx tg' K m rs := by
  refine Calls.fn D.pr D.fn ?_
  obtain ⟨w1, w2, w3⟩ := d.fr.wf.newMap
  have f1 : Fr H H.newMap := ⟨w1, w3 _⟩
  have hm := mx.mp.lt d.fr.wf
  have hmn : m ≠ H.next := by omega
  have d1 := d.free f1
  have mx1 := mx.free d.fr.wf f1
  have mn1 : Mx tg H.newMap H.next [] := ⟨w2, d.ok _ (Nat.le_refl _)⟩
  have hH0 : H0.next ≤ H.next := d.fr.next
  obtain ⟨mn, hmn'⟩ : ∃ mn, H.next = mn := ⟨_, rfl⟩
  simp [ir327, hmn']
  rw [hmn'] at hmn mn1 hH0
  refine W_loop (fun (z : Nat) e K => e 0 = .ptr (some (b, 0)) ∧ e 1 = .map (some m) ∧ e 5 = .map (some mn) ∧ ∃ j : Nat, z + j = 100 ∧ e 6 = .int .i64 j ∧ ∃ tg, Uno H0 tg K b S ∧ Mx tg K m rs ∧ ∃ es, Mx tg K mn es ∧ ∀ a, rget es a = val Q j 0 a) id 100 ?_ ?_
  · refine ⟨by simp, by simp, by simp, 0, by simp, by simp, tg, d1, mx1, [], mn1, fun a => ?_⟩
    unfold val
    split
    · simp [rget, refs, cnt]
    · have : Q.cells = [] := List.eq_nil_of_length_eq_zero (by omega)
      simp [rget, this, refs]
  · rintro z e K ⟨x0, x1, x5, j, hj, x6, tg', d, mx, es, my, hv⟩
    simp [x0, x1, x5, x6]
    refine WB.dec ?_ ?_
    · intro hj1
      simp [x0, x1, x5, x6]
      refine W_loop (fun (y : Nat) e K => e 0 = .ptr (some (b, 0)) ∧ e 1 = .map (some m) ∧ e 5 = .map (some mn) ∧ e 6 = .int .i64 j ∧ ∃ q : Nat, y + q = 8 ∧ e 7 = .int .i64 q ∧ ∃ tg, Uno H0 tg K b S ∧ Mx tg K m rs ∧ ∃ es, Mx tg K mn es ∧ ∀ a, rget es a = val Q j q a) id 8 ?_ ?_
      · exact ⟨by simp [x0], by simp [x1], by simp [x5], by simp [x6], 0, by simp, by simp, tg', d, mx, es, my, hv⟩
      · rintro y e K ⟨x0, x1, x5, x6, q, hq, x7, tg', d, mx, es, my, hv⟩
        simp [x0, x1, x5, x6, x7]
        refine WB.dec ?_ ?_
        · intro hq8
          simp [x0, x1, x5, x6, x7]
          refine WC.of (p344 D.d344 d.fr.wf d.ok d.hp hB) ?_
          rintro r K1 ⟨rfl, tg1, u1, h1⟩
          have mx := mx.up d.fr.wf u1
          have my := my.up d.fr.wf u1
          replace d := d.up u1 h1
          have hs := counts1_law hd (by omega) hv
          unfold counts1 at hs
          rcases hg : getR Q.hp j q with ⟨⟨gi, gw, gt⟩, ge⟩
          rw [hg] at hs
          simp only at hs
          have keep : ¬ (ge = 0 ∧ gi = true ∧ gw = false) → ∃ k, k < y ∧ ∃ q', k + q' = 8 ∧ (IntKind.i64.wrap ((q : Int) + 1)) = (q' : Int) ∧ ∃ tg, Uno H0 tg K1 b S ∧ Mx tg K1 m rs ∧ ∃ es, Mx tg K1 mn es ∧ ∀ a, rget es a = val Q j q' a := by
            intro hc
            rw [if_neg hc] at hs
            exact ⟨y - 1, by omega, q + 1, by omega, by rw [wrap64 (by omega) (by omega)]; simp, _, d, mx, _, my, hs⟩
          by_cases h0 : ge = 0
          · subst h0
            cases gi with
            | false => simp [x0, x1, x5, x6, x7]; exact keep (by simp)
            | true =>
              cases gw with
              | true => simp [x0, x1, x5, x6, x7]; exact keep (by simp)
              | false =>
                rw [if_pos ⟨rfl, rfl, rfl⟩] at hs
                obtain ⟨K2, s1, s2, s3, s4⟩ := my.set d.fr.wf gt (rget es gt + 1)
                simp [x0, x1, x5, x6, x7, my.look, counts_wrap hB.good.shp (by omega : (0 : Int) ≤ j) hv, s1]
                refine ⟨y - 1, by omega, q + 1, by omega, by rw [wrap64 (by omega) (by omega)]; simp, _, d.step s2 hH0 (s4.mono fun g hg => ?_), mx.step s4 hmn, _, s3, hs⟩
                subst hg; exact ⟨Nat.le_refl _, my.no⟩
          · simp [x0, x1, x5, x6, x7, h0]; exact keep (by simp [h0])
        · intro hq8
          have hq8 : q = 8 := by omega
          subst hq8
          simp [x0, x1, x5, x6, x7]
          refine ⟨z - 1, by omega, j + 1, by omega, by rw [wrap64 (by omega) (by omega)]; simp, _, d, mx, _, my, fun a => ?_⟩
          rw [hv, val_end hB.good.shp (by omega)]; rfl
    · intro hj1
      have hv : ∀ a, rget es a = refs Q.cells a := fun a => by
        rw [hv]; unfold val; rw [if_neg (by have := hB.good.shp.len; omega)]
      have hlen := hB.good.shp.len
      simp [x0, x1, x5]
      refine W_loop (fun (z : Nat) e K => e 0 = .ptr (some (b, 0)) ∧ e 1 = .map (some m) ∧ e 5 = .map (some mn) ∧ ∃ j : Nat, z + j = 100 ∧ e 12 = .int .i64 j ∧ ∃ tg, Uno H0 tg K b S ∧ Mx tg K m rs ∧ Mx tg K mn es) id 100 ?_ ?_
      · exact ⟨by simp [x0], by simp [x1], by simp [x5], 0, by simp, by simp, tg', d, mx, my⟩
      · clear x0 x1 x5 x6 d mx my hj1 hj
        rintro y e K ⟨x0, x1, x5, j, hj, x12, tg', d, mx, my⟩
        simp [x0, x1, x5, x12]
        refine WB.dec ?_ ?_
        · intro hj1
          simp [x0, x1, x5, x12]
          refine WC.of (p341 D.d341 d.fr.wf d.ok d.hp hB) ?_
          rintro r K1 ⟨rfl, tg1, u1, h1⟩
          have mx := mx.up d.fr.wf u1
          have my := my.up d.fr.wf u1
          replace d := d.up u1 h1
          simp [x0, x1, x5, x12]
          refine WC.of (p340 D.d340 d.fr.wf d.ok d.hp hB) ?_
          rintro r K2 ⟨rfl, tg2, u2, h2⟩
          have mx := mx.up d.fr.wf u2
          have my := my.up d.fr.wf u2
          replace d := d.up u2 h2
          have fin : ∃ k, k < y ∧ ∃ q', k + q' = 100 ∧ (IntKind.i64.wrap ((j : Int) + 1)) = (q' : Int) ∧ ∃ tg, Uno H0 tg K2 b S ∧ Mx tg K2 m rs ∧ Mx tg K2 mn es :=
            ⟨y - 1, by omega, j + 1, by omega, by rw [wrap64 (by omega) (by omega)]; simp, _, d, mx, my⟩
          by_cases hi : (j : Int) < Q.cells.length
          · have hz : hasR Q.hp (j : Int) false = 0 := hasR_ok (by omega) (by simp only [Rp.hp_cells]; omega)
            have hn : nOf Q j = (nth Q.cells (j : Int)).n := by unfold nOf; rw [if_pos ⟨by omega, hi⟩]
            have hct := hB.good.counted (by omega : (0 : Int) ≤ j) hi
            have gn := hB.good.n _ (nth_mem (by omega : (0 : Int) ≤ j) hi)
            have hage : 0 ≤ age (nth Q.cells (j : Int)) := by unfold age; split <;> omega
            have hrl := hB.good.refs_lt (j : Int)
            have hw : IntKind.i64.wrap ((refs Q.cells (j : Int) : Int) + (nth Q.cells (j : Int)).n) = (refs Q.cells (j : Int) : Int) + (nth Q.cells (j : Int)).n := wrap64 (by omega) (by omega)
            have hC : countQ Q j = ((nth Q.cells (j : Int)).n + refs Q.cells (j : Int), 0) := by unfold countQ; rw [hz, hct]; simp
            by_cases he : (nth Q.cells (j : Int)).e = true
            · have hS : stateR Q.hp j = (2, 0) := by unfold stateR; rw [hz]; simp [he]
              obtain ⟨e1, e2⟩ := hB.good.en j (by omega) hi he
              rw [hS, hC]
              simp [x0, x1, x5, x12, mx.look, my.look, hr, hv, hn, e1, e2, show IntKind.i64.wrap 0 = 0 by decide]
              exact fin
            · have hS : ∃ s, stateR Q.hp j = (s, 0) ∧ s ≠ 2 := by
                unfold stateR; rw [hz]
                simp [he]
                by_cases ht : (nth Q.cells (j : Int)).t = true
                · exact ⟨1, by simp [ht], by decide⟩
                · exact ⟨0, by simp [ht], by decide⟩
              obtain ⟨s, hS, hs2⟩ := hS
              rw [hS, hC]
              have hcm : (nth Q.cells (j : Int)).n + refs Q.cells (j : Int) = refs Q.cells (j : Int) + (nth Q.cells (j : Int)).n := by omega
              simp [x0, x1, x5, x12, mx.look, my.look, hr, hv, hn, hs2, hw, hcm]
              exact fin
          · have hz : hasR Q.hp (j : Int) false = 4 := hasR_out (.inr (by simp only [Rp.hp_cells]; omega))
            have hC : countQ Q j = (0, 4) := by unfold countQ; rw [hz]; simp
            have hS : stateR Q.hp j = (0, 4) := by unfold stateR; rw [hz]; simp
            rw [hS, hC]
            simp [x0, x1, x5, x12]
            exact fin
        · intro hj1
          simp
          exact ⟨_, d, mx⟩
end Go.Am
