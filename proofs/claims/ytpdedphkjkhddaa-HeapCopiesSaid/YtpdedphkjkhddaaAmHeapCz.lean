/- Contract: Cycles of the program. -/
import Derived.Test.YtpdedphkjkhddaaAmCycL
set_option linter.unusedVariables false
set_option linter.unusedSimpArgs false
namespace Go.Am
variable {T : Tab}
section
variable {k : Nat} {tg tg' : Tags} {H H' : AHeap} {b : Nat} {S : Hp}
theorem Rd.up {α : Type} {enc : α → AV} {sz : Nat} {E : Nat → Prop} {v : AV} {l : List α} (h : Rd (fun g => tg g ≠ Option.none ∨ E g) enc sz H v l) (hw : WF H) (u : Up k tg tg' H H') : Rd (fun g => tg' g ≠ Option.none ∨ E g) enc sz H' v l := by
  have h0 : Rd (tg.own k) enc sz H v l := h.mono fun g hg => by obtain ⟨t, ht⟩ := hg; rw [ht]; simp
  have h1 := h0.keepsD u.keeps
  refine ⟨h1.1, ?_⟩
  intro b off sv n c f cs e hr hd
  subst e
  have h2 := h.2
  obtain ⟨_, p, sv', cap', e, _, h5⟩ := h.1
  cases e
  obtain ⟨_, f', cs', h6, _⟩ := h5
  have hn := h0.2 b off sv _ c f' cs' rfl h6
  have hq := h2 b off sv _ c f' cs' rfl h6
  have := u.keeps.row _ _ _ h6 hn
  rw [hr] at this
  cases this
  rcases hd with hd | hd
  · rcases u.tag f with e | ⟨e, _⟩
    · rw [e] at hd; exact hq (.inl hd)
    · rcases e with e | e
      · exact hn e
      · have := hw.row_fam h6; omega
  · exact hq (.inr hd)
/-- A list of lists of nobody. -/
def FreeL (tg : Tags) (E : Nat → Prop) (H : AHeap) (v : AV) (ls : List (List Int)) : Prop :=
  ∃ (vs : List AV) (f : Option Nat), Own encA 1 H v vs f ∧ (∀ g, f = some g → ¬(tg g ≠ Option.none ∨ E g)) ∧ vs.length = ls.length ∧ ∀ i : Nat, i < ls.length → Rd (fun g => tg g ≠ Option.none ∨ E g) encI 1 H (encA (nth vs (i : Int))) (nth ls (i : Int))
theorem FreeL.up {E : Nat → Prop} {v : AV} {ls : List (List Int)} (h : FreeL tg E H v ls) (hw : WF H) (u : Up k tg tg' H H') : FreeL tg' E H' v ls := by
  obtain ⟨vs, f, h1, h2, h3, h4⟩ := h
  have hno : ∀ g, f = some g → ¬tg.own k g := by
    rintro g hg ⟨t, ht⟩
    exact h2 g hg (.inl (by rw [ht]; simp))
  refine ⟨vs, f, h1.keeps hw u.keeps hno, fun g hg => ?_, h3, fun i hi => (h4 i hi).up hw u⟩
  have hl := h1.2
  rw [hg] at hl
  have hl := hl.lt hw
  rintro (hd | hd)
  · rcases u.tag g with e | ⟨e, _⟩
    · rw [e] at hd; exact h2 g hg (.inl hd)
    · rcases e with e | e
      · exact absurd e (hno g hg)
      · omega
  · exact h2 g hg (.inr hd)
theorem FreeL.keeps {D E : Nat → Prop} {v : AV} {ls : List (List Int)} (h : FreeL tg E H v ls) (hw : WF H) (u : Keeps D H H') (hD : ∀ g, D g → E g) : FreeL tg E H' v ls := by
  obtain ⟨vs, f, h1, h2, h3, h4⟩ := h
  exact ⟨vs, f, h1.keeps hw u fun g hg hd => h2 g hg (.inr (hD g hd)), h2, h3, fun i hi => (h4 i hi).keepsD (u.mono fun g hg => .inr (hD g hg))⟩
theorem FreeL.get {E : Nat → Prop} {v : AV} {ls : List (List Int)} (h : FreeL tg E H v ls) {i : Nat} (hi : i < ls.length) :
    ∃ u, psem (.ia 1) [v, .int .i64 i] = some (elt v 1 i) ∧ rsem (.ld 1 false) [elt v 1 (i : Int)] H = some u ∧ Sl encI 1 H u (nth ls (i : Int)) := by
  obtain ⟨vs, f, h1, h2, h3, h4⟩ := h
  exact ⟨_, h1.1.ia (by omega) (by omega), h1.1.ld (by omega) (by omega), (h4 i hi).1⟩
theorem FreeL.len {E : Nat → Prop} {v : AV} {ls : List (List Int)} (h : FreeL tg E H v ls) : psem .len [v] = some (.int .i64 ls.length) := by
  obtain ⟨vs, f, h1, h2, h3, h4⟩ := h
  rw [h1.1.len, h3]
theorem LlsD.free {D E : Nat → Prop} {n : Nat} {v : AV} {ls : List (List Int)} (h : LlsD D encI n H v ls) (hD : ∀ g, tg g ≠ Option.none ∨ E g → D g) : FreeL tg E H v ls := by
  obtain ⟨vs, f, h1, h2, h3, h4⟩ := h
  exact ⟨vs, f, h1, fun g hg hc => (h2 g hg).2 (hD g hc), h3, fun i hi => (h4 i hi).mono fun g hg => .inr (hD g hg)⟩
end
end Go.Am
