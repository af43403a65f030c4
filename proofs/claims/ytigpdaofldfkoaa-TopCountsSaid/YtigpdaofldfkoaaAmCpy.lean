/- A whole slice is copied over another one. -/
import Derived.Test.YtigpdaofldfkoaaAmTag
set_option linter.unusedVariables false
set_option linter.unusedSimpArgs false
namespace Go.Am
section
variable {α : Type} {enc : α → AV} {sz : Nat}
theorem Own.cpy {H : AHeap} (hw : WF H) {v x : AV} {l ys : List α} {f : Option Nat} (h : Own enc sz H v l f) (hx : Sl enc sz H x ys) (hl : ys.length = l.length) (hs : sz ≠ 0) (hc : ∀ y ∈ ys, (enc y).cells.all AV.cell = true) :
    ∃ H', wsem0 (.cpy sz) [v, x] H = some (.int .i64 l.length, H') ∧ WF H' ∧ Own enc sz H' v ys f ∧ Keeps (fun g => f = some g) H H' ∧ H'.next = H.next := by
  obtain ⟨hx1, hx2⟩ := hx.cells
  have hzy := hx.1
  have hfl := flat_len (enc := enc) (sz := sz) hzy
  obtain ⟨⟨hz, p, sv, cap, rfl, hcap, h2⟩, hf⟩ := h
  by_cases h0 : l.length = 0
  · have e1 : l = [] := List.eq_nil_of_length_eq_zero h0
    have e2 : ys = [] := List.eq_nil_of_length_eq_zero (by omega)
    subst e1; subst e2
    refine ⟨H, ?_, hw, ⟨⟨hz, p, sv, cap, rfl, hcap, h2⟩, hf⟩, .refl, rfl⟩
    simp [wsem0, wsem, hx1, hx2]
  · cases p with
    | none => have h2 : l = [] := h2; subst h2; simp at h0
    | some q =>
      obtain ⟨b, off⟩ := q
      obtain ⟨rfl, g, cs, h4, h5, h6⟩ := h2
      obtain ⟨g', cs', q1, q2, q3⟩ := hf
      rw [h4] at q1; cases q1
      have hall : (ys.flatMap fun y => (enc y).cells).all AV.cell = true := by
        rw [List.all_flatMap, List.all_eq_true]
        exact hc
      have hbox : Box H b g cs := ⟨h4, q3⟩
      obtain ⟨H', r1, r2, r3, r4, r5⟩ := hbox.st hw (off := off) (vs := ys.flatMap fun y => (enc y).cells) (by rw [hfl, hl]; exact h5) hall
      have hmin : Nat.min ys.length l.length = l.length := by rw [hl]; exact Nat.min_self _
      refine ⟨H', ?_, r2, ⟨⟨hzy, some (b, off), sv, cap, by rw [hl], by rw [hl]; exact hcap, rfl, g, _, r3.row, ?_, ?_⟩, g, _, r3.row, q2, r3.fam⟩, r4.mono fun g' hg => by subst hg; exact q2, r5⟩
      · simp only [wsem0, wsem, hx1, hx2, hmin]
        rw [if_neg h0, if_pos (by rw [hfl, hl]; exact Nat.le_refl _), List.take_of_length_le (by rw [hfl, hl]; exact Nat.le_refl _), r1]
      · rw [hl]
        unfold splice
        simp only [List.length_append, List.length_take, List.length_drop, hfl, hl]
        omega
      · unfold splice
        have hto : (cs.take off).length = off := by rw [List.length_take]; omega
        rw [List.append_assoc, List.drop_append, List.drop_eq_nil_of_le (by omega), hto, Nat.sub_self, List.drop_zero, List.nil_append, List.take_append, List.take_of_length_le (by rw [hfl]; exact Nat.le_refl _), hfl, Nat.sub_self]
        simp
end
end Go.Am
