/- The plain law of HeapCycles: the program and the reference reach the same cells. -/
import Derived.Test.YtigpdaofldfkoaaAmRefH
set_option linter.unusedVariables false
set_option linter.unusedSimpArgs false
namespace Go.Am
theorem Both.fs {A : Int} {S : Hp} {Q : Rp} (h : Both A S Q) (b : Int) : (nth S.cells b).fs = (nth Q.cells b).fs ∧ (nth S.cells b).e = (nth Q.cells b).e := by
  have e1 : nth S.cells b = nth S.cells (b.toNat : Int) := by unfold nth; rw [Int.toNat_natCast]
  have e2 : nth Q.cells b = nth Q.cells (b.toNat : Int) := by unfold nth; rw [Int.toNat_natCast]
  rw [e1, e2]
  by_cases hb : b.toNat < Q.cells.length
  · obtain ⟨q1, _, _, q4, _⟩ := h.sim.cell (i := (b.toNat : Int)) (by omega) (by omega)
    exact ⟨q1, q4⟩
  · have d1 : nth S.cells (b.toNat : Int) = default := by unfold nth; rw [List.getD_eq_getElem?_getD, Int.toNat_natCast, List.getElem?_eq_none (by rw [h.sim.len]; omega)]; rfl
    have d2 : nth Q.cells (b.toNat : Int) = default := by unfold nth; rw [List.getD_eq_getElem?_getD, Int.toNat_natCast, List.getElem?_eq_none (by omega)]; rfl
    rw [d1, d2]; exact ⟨rfl, rfl⟩
theorem Both.reach {A : Int} {S : Hp} {Q : Rp} (h : Both A S Q) {a c : Int} : Reach S.cells a c ↔ Reach Q.cells a c := by
  constructor
  · intro hx
    induction hx with
    | refl => exact .refl a
    | step _ hc ih => rw [(h.fs _).1] at hc; exact ih.step hc
  · intro hx
    induction hx with
    | refl => exact .refl a
    | step _ hc ih => rw [← (h.fs _).1] at hc; exact ih.step hc
theorem rget_pos {es : List (Int × Int)} (hk : ∀ e ∈ es, 0 < e.2) {r : Int} (hr : r ∈ es.map (·.1)) : 0 < rget es r := by
  induction es with
  | nil => simp at hr
  | cons e es ih =>
    obtain ⟨a, v⟩ := e
    unfold rget
    by_cases e : a = r
    · rw [if_pos e]; exact hk (a, v) (by simp)
    · rw [if_neg e]
      refine ih (fun e he => hk e (by simp [he])) ?_
      simp only [List.map_cons, List.mem_cons] at hr
      exact hr.resolve_left (Ne.symm e)
theorem Both.isRoot {A : Int} {S : Hp} {Q : Rp} (h : Both A S Q) {r : Int} : r ∈ S.roots.map (·.1) ↔ 0 ≤ r ∧ r < Q.cells.length ∧ 0 < (nth Q.cells r).n := by
  constructor
  · intro hr
    have hp := rget_pos (fun e he => (h.ro.in_ e he).2.2) hr
    obtain ⟨e, he, rfl⟩ := List.mem_map.1 hr
    obtain ⟨q1, q2, _⟩ := h.ro.in_ e he
    rw [h.sim.len] at q2
    exact ⟨q1, q2, by rw [← (h.sim.at_ _ q1 q2).2]; exact hp⟩
  · rintro ⟨r0, r1, hn⟩
    rw [← (h.sim.at_ _ r0 r1).2] at hn
    apply Classical.byContradiction
    intro hc
    rw [rget_not hc] at hn
    omega
/-- The cells of both are a graph. -/
theorem graph {A : Int} {S : Hp} {Q : Rp} (h : Both A S Q) (d : Dry Q) : Graph Q.cells := by
  refine ⟨h.good.shp, fun c hc t ht => ?_, fun i i0 i1 he => ?_⟩
  · unfold strongs at ht
    obtain ⟨x, hx, rfl⟩ := List.mem_map.1 ht
    obtain ⟨q1, q2⟩ := List.mem_filter.1 hx
    simp at q2
    exact h.good.to c hc x q1 q2.1
  · unfold strongs
    rw [List.filter_eq_nil_iff.2, List.map_nil]
    intro x hx
    simp [d i i0 i1 he x hx]
end Go.Am
