/- The law HeapCounts: what counts looks at. -/
import Derived.Test.YtigpdaofldfkoaaAmHeapU
set_option linter.unusedVariables false
set_option linter.unusedSimpArgs false
namespace Go.Am
variable {T : Tab}
/-! ### One heap on the small machine -/
structure Uno (H0 : AHeap) (tg : Tags) (H : AHeap) (b : Nat) (S : Hp) : Prop where
  fr : Fr H0 H
  ok : TagOk tg H
  new : ∀ g j t, tg g = some (j, t) → H0.next ≤ g
  hp : HpR 0 tg H b 0 S
/-- A map of numbers that is nobody's. -/
structure Mx (tg : Tags) (H : AHeap) (m : Nat) (es : List (Int × Int)) : Prop where
  mp : Mp H m (es.map encE)
  no : tg m = none
section
variable {H0 H K : AHeap} {tg tg' : Tags} {b m : Nat} {S S' : Hp} {es : List (Int × Int)}
theorem Uno.up (d : Uno H0 tg H b S) (u : Up 0 tg tg' H K) (h : HpR 0 tg' K b 0 S') : Uno H0 tg' K b S' := by
  obtain ⟨e1, e2⟩ := upNew d.fr d.new u
  exact ⟨e1, u.ok, e2, h⟩
theorem Uno.free (d : Uno H0 tg H b S) (f : Fr H K) : Uno H0 tg K b S :=
  ⟨d.fr.trans f, fun g hg => d.ok g (Nat.le_trans f.next hg), d.new, d.hp.fr d.fr.wf f⟩
theorem Uno.step (d : Uno H0 tg H b S) (hw : WF K) {n : Nat} (hn : H0.next ≤ n) (k : Keeps (fun g => n ≤ g ∧ tg g = none) H K) : Uno H0 tg K b S :=
  ⟨d.fr.step hw k fun g hg => Nat.le_trans hn hg.1, fun g hg => d.ok g (Nat.le_trans k.next hg), d.new, d.hp.free d.fr.wf k⟩
theorem Mx.up {k : Nat} (h : Mx tg H m es) (hw : WF H) (u : Up k tg tg' H K) : Mx tg' K m es := by
  have hf := h.mp.lt hw
  have hno : ¬tg.own k m := by rintro ⟨t, ht⟩; rw [h.no] at ht; cases ht
  refine ⟨h.mp.keeps u.keeps hno, ?_⟩
  rcases u.tag m with e | ⟨e, _⟩
  · rw [e]; exact h.no
  · rcases e with e | e
    · exact absurd e hno
    · omega
theorem Mx.free (h : Mx tg H m es) (hw : WF H) (f : Fr H K) : Mx tg K m es := ⟨h.mp.keeps f.keeps (by have := h.mp.lt hw; omega), h.no⟩
theorem Mx.step {D : Nat → Prop} (h : Mx tg H m es) (f : Keeps D H K) (hm : ¬D m) : Mx tg K m es := ⟨h.mp.keeps f hm, h.no⟩
theorem Mx.look (h : Mx tg H m es) (a : Int) : rsem (.look .int (.int .i64 0) false) [.map (some m), .int .i64 a] H = some (.int .i64 (rget es a)) := by
  rcases rfind a es 0 with ⟨j, x, h1, h2, _⟩ | ⟨h1, h2, _⟩
  · rw [h.mp.look rfl h1, h2]
  · rw [h.mp.look rfl h1, h2]
theorem Mx.set (h : Mx tg H m es) (hw : WF H) (a w : Int) :
    ∃ K, wsem0 (.mset .int) [.map (some m), .int .i64 a, .int .i64 w] H = some (.undef, K) ∧ WF K ∧ Mx tg K m (rset es a w) ∧ Keeps (fun g => g = m) H K := by
  rcases rfind a es 0 with ⟨j, x, h1, h2, h3, _⟩ | ⟨h1, h2, h3, _⟩
  · obtain ⟨H', q1, q2⟩ := h.mp.mset' hw (v := .int .i64 w) rfl h1
    rw [Nat.zero_add, h3] at q2
    exact ⟨H', q1, q2.wf, ⟨q2.mp, h.no⟩, q2.keeps⟩
  · obtain ⟨H', q1, q2⟩ := h.mp.mset hw (v := .int .i64 w) rfl h1
    rw [h3] at q2
    exact ⟨H', q1, q2.wf, ⟨q2.mp, h.no⟩, q2.keeps⟩
end
/-! ### What is counted -/
def val (Q : Rp) (i : Int) (q : Nat) (a : Int) : Nat := if i < Q.cells.length then refs (Q.cells.take i.toNat) a + cnt ((nth Q.cells i).fs.take q) a else refs Q.cells a
theorem val_end {Q : Rp} (h : Shp Q.cells) {i : Int} (i0 : 0 ≤ i) (a : Int) : val Q i 8 a = val Q (i + 1) 0 a := by
  unfold val
  by_cases h1 : i < Q.cells.length
  · have := h.fl _ (nth_mem i0 h1)
    have e := refs_take (cs := Q.cells) (j := i.toNat) (by omega) a
    rw [show ((i.toNat : Nat) : Int) = i by omega] at e
    rw [if_pos h1, List.take_of_length_le (l := (nth Q.cells i).fs) this, ← e]
    by_cases h2 : i + 1 < Q.cells.length
    · rw [if_pos h2, show (i + 1).toNat = i.toNat + 1 by omega]; simp [cnt]
    · rw [if_neg h2, List.take_of_length_le (by omega)]
  · rw [if_neg h1, if_neg (by omega)]
theorem hasFieldR_ok {S : Hp} {i f : Int} (i0 : 0 ≤ i) (i1 : i < S.cells.length) (he : (nth S.cells i).e = false) (f0 : 0 ≤ f) (f1 : f < (nth S.cells i).fs.length) : hasFieldR S i f = 0 := by
  have hh : hasR S i true = 0 := by
    unfold hasR
    rw [if_neg (by omega), if_neg (by rw [he]; simp)]
  unfold hasFieldR
  rw [hh, if_neg (by simp), if_neg (by omega)]
theorem val_le {Q : Rp} (h : Shp Q.cells) {i : Int} (i0 : 0 ≤ i) (q : Nat) (a : Int) : val Q i q a ≤ 1000 := by
  unfold val
  have l := h.len
  split
  · rename_i h1'
    have h1 := refs_le (i := a) (take_fl h.fl i.toNat)
    have h2 := cnt_le ((nth Q.cells i).fs.take q) a
    have h3 : (Q.cells.take i.toNat).length ≤ 100 := by rw [List.length_take]; omega
    have := h.fl _ (nth_mem i0 h1')
    rw [List.length_take] at h2
    omega
  · have := refs_le (i := a) h.fl
    omega
end Go.Am
