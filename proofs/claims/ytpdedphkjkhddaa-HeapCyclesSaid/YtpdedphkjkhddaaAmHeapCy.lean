/- The plain law of HeapCycles: the program and the reference reach the same cells. -/
import Derived.Test.YtpdedphkjkhddaaAmRefH
set_option linter.unusedVariables false
set_option linter.unusedSimpArgs false
namespace Go.Am
theorem Both.fs {A : Int} {S : Hp} {Q : Rp} (h : Both A S Q) (b : Int) : (nth S.cells b).fs = (nth Q.cells b).fs ∧ (nth S.cells b).e = (nth Q.cells b).e := by
  have e1 : nth S.cells b = nth S.cells (b.toNat : Int) := by unfold nth; rw [Int.toNat_natCast]
  have e2 : nth Q.cells b = nth Q.cells (b.toNat : Int) := by unfold nth; rw [Int.toNat_natCast]
  rw [e1, e2]
  by_cases hb : b.toNat < Q.cells.length
  · obtain ⟨q1, _, _, q4, _⟩ := h.sim.cell (i := (b.toNat : Int)) (by omega) (by omega)
    exact ⟨q1, q4⟩
  · have d1 : nth S.cells (b.toNat : Int) = default := by unfold nth; rw [List.getD_eq_getElem?_getD, Int.toNat_natCast, List.getElem?_eq_none (by rw [h.sim.len]; omega)]; rfl
    have d2 : nth Q.cells (b.toNat : Int) = default := by unfold nth; rw [List.getD_eq_getElem?_getD, Int.toNat_natCast, List.getElem?_eq_none (by omega)]; rfl
    rw [d1, d2]; exact ⟨rfl, rfl⟩
theorem Both.reach {A : Int} {S : Hp} {Q : Rp} (h : Both A S Q) {a c : Int} : Reach S.cells a c ↔ Reach Q.cells a c := by
  constructor
  · intro hx
    induction hx with
    | refl => exact .refl a
    | step _ hc ih => rw [(h.fs _).1] at hc; exact ih.step hc
  · intro hx
    induction hx with
    | refl => exact .refl a
    | step _ hc ih => rw [← (h.fs _).1] at hc; exact ih.step hc
theorem rget_pos {es : List (Int × Int)} (hk : ∀ e ∈ es, 0 < e.2) {r : Int} (hr : r ∈ es.map (·.1)) : 0 < rget es r := by
  induction es with
  | nil => simp at hr
  | cons e es ih =>
    obtain ⟨a, v⟩ := e
    unfold rget
    by_cases e : a = r
    · rw [if_pos e]; exact hk (a, v) (by simp)
    · rw [if_neg e]
      refine ih (fun e he => hk e (by simp [he])) ?_
      simp only [List.map_cons, List.mem_cons] at hr
      exact hr.resolve_left (Ne.symm e)
theorem Both.isRoot {A : Int} {S : Hp} {Q : Rp} (h : Both A S Q) {r : Int} : r ∈ S.roots.map (·.1) ↔ 0 ≤ r ∧ r < Q.cells.length ∧ 0 < (nth Q.cells r).n := by
  constructor
  · intro hr
    have hp := rget_pos (fun e he => (h.ro.in_ e he).2.2) hr
    obtain ⟨e, he, rfl⟩ := List.mem_map.1 hr
    obtain ⟨q1, q2, _⟩ := h.ro.in_ e he
    rw [h.sim.len] at q2
    exact ⟨q1, q2, by rw [← (h.sim.at_ _ q1 q2).2]; exact hp⟩
  · rintro ⟨r0, r1, hn⟩
    rw [← (h.sim.at_ _ r0 r1).2] at hn
    apply Classical.byContradiction
    intro hc
    rw [rget_not hc] at hn
    omega
theorem bools_ext {bs cs : List Bool} (hl : bs.length = cs.length) (h : ∀ a : Int, 0 ≤ a → a < cs.length → (nth bs a = true ↔ nth cs a = true)) : bs = cs := by
  apply List.ext_getElem hl
  intro i h1 h2
  have := h (i : Int) (by omega) (by omega)
  have e1 : nth bs (i : Int) = bs[i] := by simp [nth, List.getElem?_eq_getElem h1]
  have e2 : nth cs (i : Int) = cs[i] := by simp [nth, List.getElem?_eq_getElem h2]
  rw [e1, e2] at this
  cases hb : bs[i] <;> cases hc : cs[i] <;> simp_all
theorem led_same {A : Int} {S : Hp} {Q : Rp} (h : Both A S Q) {bs cs : List Bool} (h1 : Led S bs) (h2 : LedQ Q cs) : bs = cs := by
  refine bools_ext (by rw [h1.1, h2.1, h.sim.len]) fun a a0 a1 => ?_
  rw [h2.1] at a1
  rw [h1.2 a a0 (by rw [h.sim.len]; exact a1), h2.2 a a0 a1]
  constructor
  · rintro ⟨r, hr, hx⟩
    obtain ⟨q1, q2, q3⟩ := h.isRoot.1 hr
    exact ⟨r, q1, q2, q3, h.reach.1 hx⟩
  · rintro ⟨r, q1, q2, q3, hx⟩
    exact ⟨r, h.isRoot.2 ⟨q1, q2, q3⟩, h.reach.2 hx⟩
theorem lost_same {A : Int} {S : Hp} {Q : Rp} (h : Both A S Q) {bs cs bs' cs' : List Bool} (h1 : Led S bs) (h2 : LedQ Q bs') (l1 : LostB S bs cs) (l2 : LostB Q.hp bs' cs') : cs = cs' := by
  have e := led_same h h1 h2
  subst e
  refine bools_ext (by rw [l1.1, l2.1]) fun a a0 a1 => ?_
  rw [l2.1] at a1
  rw [l1.2 a a0 a1, l2.2 a a0 a1, (h.fs a).2]
  rfl
/-- The cells of both are a graph. -/
theorem graph {A : Int} {S : Hp} {Q : Rp} (h : Both A S Q) (d : Dry Q) : Graph Q.cells := by
  refine ⟨h.good.shp, fun c hc t ht => ?_, fun i i0 i1 he => ?_⟩
  · unfold strongs at ht
    obtain ⟨x, hx, rfl⟩ := List.mem_map.1 ht
    obtain ⟨q1, q2⟩ := List.mem_filter.1 hx
    simp at q2
    exact h.good.to c hc x q1 q2.1
  · unfold strongs
    rw [List.filter_eq_nil_iff.2, List.map_nil]
    intro x hx
    simp [d i i0 i1 he x hx]
end Go.Am
