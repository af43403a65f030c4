/- The heap's contracts in the reference's words. -/
import Derived.Test.YtigpdaofldfkoaaAmHeapsL
set_option linter.unusedVariables false
set_option linter.unusedSimpArgs false
namespace Go.Am
variable {T : Tab}
/-- What stands after an act. -/
structure Done (A : Int) (p : Nat) (S' : Hp) (Q' : Rp) : Prop where
  both : Both A S' Q'
  ph : phi Q' ≤ p + 12
section
variable {k : Nat} {tg tg' : Tags} {H H' : AHeap} {b : Nat} {S : Hp} {Q : Rp} {A : Int}
theorem Both.toIn (h : Both A S Q) {i f : Int} (hz : hasFieldR S i f = 0) : ToIn S i f := by
  obtain ⟨q1, q2, q3, q4, q5⟩ := hasFieldR_in hz
  have q2' : i < Q.cells.length := by rw [← h.sim.len]; exact q2
  have e := h.sim.cell q1 q2'
  unfold ToIn
  rw [e.1, h.sim.len]
  exact h.good.toIn q1 q2' q4 (by rw [← e.1]; exact q5)
theorem Both.qto (h : Both A S Q) {i f : Int} (hz : hasFieldR Q.hp i f = 0) : QTo Q i f := by
  obtain ⟨q1, q2, q3, q4, q5⟩ := hasFieldR_in hz
  exact h.good.toIn q1 q2 q4 q5
theorem Both.rt (h : Both A S Q) (hA : A ≤ 2 ^ 40) (i : Int) : -(2 ^ 60) ≤ rget S.roots i ∧ rget S.roots i ≤ 2 ^ 60 := by
  by_cases hi : 0 ≤ i ∧ i < Q.cells.length
  · have := h.good.n _ (nth_mem hi.1 hi.2)
    rw [(h.sim.at_ i hi.1 hi.2).2]
    have : 0 ≤ age (nth Q.cells i) := by unfold age; split <;> omega
    omega
  · rw [rget_not (fun hm => ?_)]
    · omega
    · obtain ⟨e, he, hk⟩ := List.mem_map.1 hm
      have := h.ro.in_ e he
      rw [hk, h.sim.len] at this
      exact hi ⟨this.1, this.2.1⟩
theorem Both.bnd (h : Both A S Q) (hA : A ≤ 2 ^ 40) (hp : phi Q < 2 ^ 29) : Bnd S := h.sim.bnd h.good hA (by omega)
theorem Both.qbnd (h : Both A S Q) (hA : A ≤ 2 ^ 40) (hp : phi Q < 2 ^ 29) : QBnd Q := h.good.qbnd hA (by omega)
theorem p345 (D : D345 T) (hw : WF H) (hk : TagOk tg H) (h : HpR k tg H b 0 S) (hB : Both A S Q) (hA : A ≤ 2 ^ 40) (hp : phi Q < 2 ^ 29) {i f to : Int} {weak : Bool} :
    Calls T 345 [.ptr (some (b, 0)), .int .i64 i, .int .i64 f, .int .i64 to, .bool weak] H fun r K => r = .int .i64 (setQ Q i f to weak).2 ∧ ∃ S', To k tg H b 0 S' K ∧ Done A (phi Q) S' (setQ Q i f to weak).1 := by
  refine (c345 D hw hk h (hB.bnd hA hp) fun hz => hB.toIn hz).imp ?_
  rintro r K ⟨rfl, h'⟩
  obtain ⟨e1, e2, e3⟩ := both_set hB i f to weak
  exact ⟨by rw [e1], _, h', e2, e3⟩
theorem p346 (D : D346 T) (hw : WF H) (hk : TagOk tg H) (h : HpR k tg H b 0 S) (hB : Both A S Q) (hA : A ≤ 2 ^ 40) (hp : phi Q < 2 ^ 29) {i f : Int} :
    Calls T 346 [.ptr (some (b, 0)), .int .i64 i, .int .i64 f] H fun r K => r = .int .i64 (clearQ Q i f).2 ∧ ∃ S', To k tg H b 0 S' K ∧ Done A (phi Q) S' (clearQ Q i f).1 := by
  refine (c346 D hw hk h (hB.bnd hA hp) fun hz => hB.toIn hz).imp ?_
  rintro r K ⟨rfl, h'⟩
  obtain ⟨e1, e2, e3⟩ := both_clear hB i f
  by_cases hz : hasFieldR S i f = 0
  · rw [if_neg (by simp [hz])] at e1 e2
    rw [if_pos hz] at h'
    exact ⟨by rw [hz, ← e1], _, h', e2, e3⟩
  · rw [if_pos (by simpa using hz)] at e1 e2
    rw [if_neg hz] at h'
    exact ⟨by rw [← e1], _, h', e2, e3⟩
theorem p324 (D : D324 T) (hw : WF H) (hk : TagOk tg H) (h : HpR k tg H b 0 S) (hB : Both A S Q) (hA : A ≤ 2 ^ 40) (hp : phi Q < 2 ^ 29) {i : Int} :
    Calls T 324 [.ptr (some (b, 0)), .int .i64 i] H fun r K => r = .int .i64 (rootQ Q i).2 ∧ ∃ S', To k tg H b 0 S' K ∧ Done (A + 1) (phi Q) S' (rootQ Q i).1 := by
  refine (c324 D hw hk h (hB.bnd hA hp) (hB.rt hA i)).imp ?_
  rintro r K ⟨rfl, h'⟩
  obtain ⟨e1, e2, e3⟩ := both_root hB i
  by_cases hz : hasR S i true = 0
  · rw [if_neg (by simp [hz])] at e1 e2
    rw [if_pos hz] at h'
    exact ⟨by rw [hz, ← e1], _, h', e2, e3⟩
  · rw [if_pos (by simpa using hz)] at e1 e2
    rw [if_neg hz] at h'
    exact ⟨by rw [← e1], _, h', e2, e3⟩
theorem p325 (D : D325 T) (hw : WF H) (hk : TagOk tg H) (h : HpR k tg H b 0 S) (hB : Both A S Q) (hA : A ≤ 2 ^ 40) (hp : phi Q < 2 ^ 29) {i : Int} :
    Calls T 325 [.ptr (some (b, 0)), .int .i64 i] H fun r K => r = .int .i64 (dropQ Q i).2 ∧ ∃ S', To k tg H b 0 S' K ∧ Done A (phi Q) S' (dropQ Q i).1 := by
  refine (c325 D hw hk h (hB.bnd hA hp) (hB.rt hA i)).imp ?_
  rintro r K ⟨rfl, h'⟩
  obtain ⟨e1, e2, e3⟩ := both_drop hB i
  exact ⟨by rw [e1], _, h', e2, e3⟩
theorem p343 (D : D343 T) (hw : WF H) (hk : TagOk tg H) (h : HpR k tg H b 0 S) (hB : Both A S Q) (hA : A ≤ 2 ^ 40) (hA1 : 1 ≤ A) (hp : phi Q < 2 ^ 29) {n : Int} {w : Bool} :
    Calls T 343 [.ptr (some (b, 0)), .int .i64 n, .bool w] H fun r K => r = .tup [.int .i64 (makeQ Q n w).2.1, .int .i64 (makeQ Q n w).2.2] ∧ ∃ S', To k tg H b 0 S' K ∧ Done A (phi Q) S' (makeQ Q n w).1 := by
  have := (hB.bnd hA hp).notes
  refine (c343 D hw hk h (by rw [hB.sim.len]; exact hB.good.shp.len) (by omega)).imp ?_
  rintro r K ⟨rfl, h'⟩
  obtain ⟨e1, e2, e3⟩ := both_make hA1 hB n w
  exact ⟨by rw [e1], _, h', e2, e3⟩
theorem p323 (D : D323 T) (hw : WF H) (hk : TagOk tg H) (h : HpR k tg H b 0 S) (hB : Both A S Q) (hA : A ≤ 2 ^ 40) (hp : phi Q < 2 ^ 29) :
    Calls T 323 [.ptr (some (b, 0))] H fun r K => r = .tup [.int .i64 (nextQ (2 ^ 29) Q).2.1, .bool (nextQ (2 ^ 29) Q).2.2] ∧ ∃ S', To k tg H b 0 S' K ∧ Done A (phi Q) S' (nextQ (2 ^ 29) Q).1 := by
  obtain ⟨i1, i2, i3, i4, i5, i6⟩ := both_next hA (2 ^ 29) hB hp (by omega)
  refine (c323 D hw hk h i1).imp ?_
  rintro r K ⟨rfl, h'⟩
  exact ⟨by rw [i3], _, h', i4, by omega⟩
theorem p339 (D : D339 T) (hw : WF H) (hk : TagOk tg H) (h : HpR k tg H b 0 S) (hB : Both A S Q) (hA : A ≤ 2 ^ 40) (hp : phi Q < 2 ^ 29) :
    Calls T 339 [.ptr (some (b, 0))] H fun r K => ∃ S' tg', Up k tg tg' H K ∧ HpR k tg' K b 0 S' ∧ Done A (phi Q) S' (settleQ (2 ^ 29) (2 ^ 29) Q).1 ∧ Free tg' K H.next r (settleQ (2 ^ 29) (2 ^ 29) Q).2 := by
  obtain ⟨i1, i2, i3, i4, i5⟩ := both_settle (n := 2 ^ 29) hA (2 ^ 29) hB hp hp (by omega)
  refine (c339 D hw hk h i1 (by decide)).imp ?_
  rintro r K ⟨tg', u, h1, h2⟩
  rw [i3] at h2
  exact ⟨_, tg', u, h1, ⟨i4, by omega⟩, h2⟩
theorem p341 (D : D341 T) (hw : WF H) (hk : TagOk tg H) (h : HpR k tg H b 0 S) (hB : Both A S Q) {i : Int} :
    Calls T 341 [.ptr (some (b, 0)), .int .i64 i] H fun r K => r = .tup [.int .i64 (countQ Q i).1, .int .i64 (countQ Q i).2] ∧ To k tg H b 0 S K := by
  refine (c341 D hw hk h).imp ?_
  rintro r K ⟨rfl, h'⟩
  rw [hB.sim.count hB.good]
  exact ⟨rfl, h'⟩
theorem p340 (D : D340 T) (hw : WF H) (hk : TagOk tg H) (h : HpR k tg H b 0 S) (hB : Both A S Q) {i : Int} :
    Calls T 340 [.ptr (some (b, 0)), .int .i64 i] H fun r K => r = .tup [.int .i64 (stateR Q.hp i).1, .int .i64 (stateR Q.hp i).2] ∧ To k tg H b 0 S K := by
  refine (c340 D hw hk h).imp ?_
  rintro r K ⟨rfl, h'⟩
  rw [hB.sim.state]
  exact ⟨rfl, h'⟩
theorem p344 (D : D344 T) (hw : WF H) (hk : TagOk tg H) (h : HpR k tg H b 0 S) (hB : Both A S Q) {i f : Int} :
    Calls T 344 [.ptr (some (b, 0)), .int .i64 i, .int .i64 f] H fun r K => r = .tup [.int .i64 (getR Q.hp i f).1.to, .bool (getR Q.hp i f).1.is, .bool (getR Q.hp i f).1.weak, .int .i64 (getR Q.hp i f).2] ∧ To k tg H b 0 S K := by
  refine (c344 D hw hk h).imp ?_
  rintro r K ⟨rfl, h'⟩
  rw [hB.sim.get]
  exact ⟨rfl, h'⟩
end
/-! ### Nothing yet -/
def Rp.none : Rp := ⟨[], []⟩
theorem both_none {A : Int} : Both A Hp.none Rp.none :=
  ⟨⟨rfl, rfl, fun i i0 i1 => by simp [Rp.none] at i1; omega⟩, ⟨⟨by simp [Rp.none], by simp [Rp.none]⟩, by simp [Rp.none], by simp [Rp.none], by simp [Rp.none], fun i i0 i1 => by simp [Rp.none] at i1; omega⟩, ⟨by simp [Keys, Hp.none], by simp [Hp.none]⟩⟩
/-! ### Both heaps on the small machine -/
structure Duo (H0 : AHeap) (tg : Tags) (H : AHeap) (b1 b2 : Nat) (S : Hp) (Q : Rp) : Prop where
  fr : Fr H0 H
  ok : TagOk tg H
  new : ∀ g j t, tg g = some (j, t) → H0.next ≤ g
  hp : HpR 0 tg H b1 0 S
  rp : RpR 1 tg H b2 Q
section
variable {H0 H K : AHeap} {tg tg' : Tags} {b1 b2 : Nat} {S S' : Hp} {Q Q' : Rp}
theorem upNew {k : Nat} (hf : Fr H0 H) (hn : ∀ g j t, tg g = some (j, t) → H0.next ≤ g) (u : Up k tg tg' H K) : Fr H0 K ∧ ∀ g j t, tg' g = some (j, t) → H0.next ≤ g := by
  refine ⟨hf.step u.wf u.keeps fun g ⟨t, ht⟩ => hn g k t ht, fun g j t ht => ?_⟩
  rcases u.tag g with e | ⟨e, _⟩
  · rw [e] at ht; exact hn g j t ht
  · rcases e with ⟨t', e⟩ | e
    · exact hn g k t' e
    · exact Nat.le_trans hf.next e
theorem Duo.one (d : Duo H0 tg H b1 b2 S Q) (u : Up 0 tg tg' H K) (h : HpR 0 tg' K b1 0 S') : Duo H0 tg' K b1 b2 S' Q := by
  obtain ⟨e1, e2⟩ := upNew d.fr d.new u
  exact ⟨e1, u.ok, e2, h, d.rp.other d.fr.wf (by decide) u⟩
theorem Duo.free (d : Duo H0 tg H b1 b2 S Q) (f : Fr H K) : Duo H0 tg K b1 b2 S Q :=
  ⟨d.fr.trans f, fun g hg => d.ok g (Nat.le_trans f.next hg), d.new, d.hp.fr d.fr.wf f, d.rp.fr d.fr.wf f⟩
/-- A box of nobody. -/
structure Bx (tg : Tags) (H : AHeap) (b f : Nat) (cs : List AV) : Prop where
  box : Box H b f cs
  no : tg f = none
theorem Bx.up {k b f : Nat} {cs : List AV} (h : Bx tg H b f cs) (hw : WF H) (u : Up k tg tg' H K) : Bx tg' K b f cs := by
  have hf := hw.row_fam h.box.row
  have hno : ¬tg.own k f := by rintro ⟨t, ht⟩; rw [h.no] at ht; cases ht
  refine ⟨h.box.keeps hw u.keeps hno, ?_⟩
  rcases u.tag f with e | ⟨e, _⟩
  · rw [e]; exact h.no
  · rcases e with e | e
    · exact absurd e hno
    · omega
theorem Bx.new {cs : List AV} (hk : TagOk tg H) : Bx tg (H.new cs) H.next H.next cs := ⟨.new, hk _ (Nat.le_refl _)⟩
end
end Go.Am
