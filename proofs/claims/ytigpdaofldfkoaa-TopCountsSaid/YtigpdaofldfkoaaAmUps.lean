/- What is done to some structures; the others stay. -/
import Derived.Test.YtigpdaofldfkoaaAmHeapP
set_option linter.unusedVariables false
set_option linter.unusedSimpArgs false
namespace Go.Am
structure Ups (E : Nat → Prop) (tg tg' : Tags) (H H' : AHeap) : Prop where
  wf : WF H'
  ok : TagOk tg' H'
  keeps : Keeps (fun g => ∃ j, E j ∧ tg.own j g) H H'
  tag : ∀ g, tg' g = tg g ∨ (((∃ j, E j ∧ tg.own j g) ∨ H.next ≤ g) ∧ ∀ j t, tg' g = some (j, t) → E j)
section
variable {E : Nat → Prop} {tg tg1 tg' : Tags} {H H1 H' : AHeap} {b : Nat} {lk : Int} {S : Hp} {Q : Rp} {k : Nat}
theorem Ups.of (u : Up k tg tg' H H') (hk : E k) : Ups E tg tg' H H' :=
  ⟨u.wf, u.ok, u.keeps.mono fun g hg => ⟨k, hk, hg⟩, fun g => (u.tag g).imp id fun ⟨h1, h2⟩ => ⟨h1.imp (fun h => ⟨k, hk, h⟩) id, fun j t ht => by rw [h2 j t ht]; exact hk⟩⟩
theorem Ups.fr (hw : WF H) (hk : TagOk tg H) (f : Fr H H') : Ups E tg tg H H' :=
  ⟨f.wf, fun g hg => hk g (Nat.le_trans f.next hg), Keeps.drop hw (f.keeps.mono fun g e => .inr e), fun _ => .inl rfl⟩
theorem Ups.refl (hw : WF H) (hk : TagOk tg H) : Ups E tg tg H H := Ups.fr hw hk (.refl hw)
theorem Ups.trans (hw : WF H) (h : Ups E tg tg1 H H1) (h' : Ups E tg1 tg' H1 H') : Ups E tg tg' H H' := by
  have back : ∀ g, (∃ j, E j ∧ tg1.own j g) → (∃ j, E j ∧ tg.own j g) ∨ H.next ≤ g := by
    rintro g ⟨j, hj, t, ht⟩
    rcases h.tag g with e | e
    · exact .inl ⟨j, hj, t, by rw [← e]; exact ht⟩
    · exact e.1
  refine ⟨h'.wf, h'.ok, ?_, fun g => ?_⟩
  · exact Keeps.drop hw ((h.keeps.mono fun g hg => .inl hg).trans (h'.keeps.mono back))
  · rcases h'.tag g with e | ⟨e1, e2⟩
    · rw [e]; exact h.tag g
    · refine .inr ⟨?_, e2⟩
      rcases e1 with e1 | e1
      · exact back g e1
      · exact .inr (Nat.le_trans h.keeps.next e1)
theorem Ups.mono {E' : Nat → Prop} (u : Ups E tg tg' H H') (h : ∀ j, E j → E' j) : Ups E' tg tg' H H' :=
  ⟨u.wf, u.ok, u.keeps.mono fun g ⟨j, hj, ho⟩ => ⟨j, h j hj, ho⟩, fun g => (u.tag g).imp id fun ⟨h1, h2⟩ => ⟨h1.imp (fun ⟨j, hj, ho⟩ => ⟨j, h j hj, ho⟩) id, fun j t ht => h j (h2 j t ht)⟩⟩
/-- Other things' tags stay. -/
theorem Ups.other (h : Ups E tg tg' H H') (hj : ¬E k) {g : Nat} (hg : g < H.next) {t : Tag} (ht : tg g = some (k, t)) : (¬∃ j, E j ∧ tg.own j g) ∧ tg' g = some (k, t) := by
  have hn : ¬∃ j, E j ∧ tg.own j g := by
    rintro ⟨j, hj', t', h'⟩
    rw [ht] at h'; simp at h'
    exact hj (by rw [h'.1]; exact hj')
  refine ⟨hn, ?_⟩
  rcases h.tag g with e | ⟨e, _⟩
  · rw [e]; exact ht
  · rcases e with e | e
    · exact absurd e hn
    · omega
theorem Ups.hp (u : Ups E tg tg' H H') (h : HpR k tg H b lk S) (hw : WF H) (hj : ¬E k) : HpR k tg' H' b lk S := by
  obtain ⟨fb, m, cv, nv, fc, fn, xs, ff, h⟩ := h
  exact ⟨fb, m, cv, nv, fc, fn, xs, ff, h.keeps hw u.keeps fun g t hg ht => u.other hj hg ht⟩
theorem Ups.rp (u : Ups E tg tg' H H') (h : RpR k tg H b Q) (hw : WF H) (hj : ¬E k) : RpR k tg' H' b Q := by
  obtain ⟨fb, cv, nv, fc, fn, xs, ff, h⟩ := h
  exact ⟨fb, cv, nv, fc, fn, xs, ff, h.keeps hw u.keeps fun g t hg ht => u.other hj hg ht⟩
end
end Go.Am
