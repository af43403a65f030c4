/- The plain law of the heap: what counts wants: an ended cell's fields are empty, and how often a cell is a root. -/
import Derived.Test.YtigpdaofldfkoaaAmHeapP
set_option linter.unusedVariables false
set_option linter.unusedSimpArgs false
namespace Go.Am
/-- How often a number is a root. -/
def nOf (Q : Rp) (a : Int) : Int := if 0 ≤ a ∧ a < Q.cells.length then (nth Q.cells a).n else 0
def DryAt (Q : Rp) (i : Int) : Prop := (nth Q.cells i).e = true → ∀ x ∈ (nth Q.cells i).fs, x.is = false
def Dry (Q : Rp) : Prop := ∀ i : Int, 0 ≤ i → i < Q.cells.length → DryAt Q i
/-- Nothing is done but that fields are emptied. -/
structure Thin (Q Q' : Rp) : Prop where
  len : Q'.cells.length = Q.cells.length
  at_ : ∀ i : Int, 0 ≤ i → i < Q.cells.length → (nth Q'.cells i).n = (nth Q.cells i).n ∧ (nth Q'.cells i).e = (nth Q.cells i).e ∧ ∀ x ∈ (nth Q'.cells i).fs, x.is = true → x ∈ (nth Q.cells i).fs
theorem Thin.refl {Q : Rp} : Thin Q Q := ⟨rfl, fun i _ _ => ⟨rfl, rfl, fun x h _ => h⟩⟩
theorem Thin.trans {Q Q1 Q2 : Rp} (h : Thin Q Q1) (k : Thin Q1 Q2) : Thin Q Q2 :=
  ⟨k.len.trans h.len, fun i i0 i1 => by
    obtain ⟨a1, a2, a3⟩ := h.at_ i i0 i1
    obtain ⟨b1, b2, b3⟩ := k.at_ i i0 (by rw [h.len]; exact i1)
    exact ⟨b1.trans a1, b2.trans a2, fun x hx hi => a3 x (b3 x hx hi) hi⟩⟩
theorem Thin.dryAt {Q Q' : Rp} (h : Thin Q Q') {i : Int} (i0 : 0 ≤ i) (i1 : i < Q.cells.length) (d : DryAt Q i) : DryAt Q' i := by
  obtain ⟨a1, a2, a3⟩ := h.at_ i i0 i1
  intro he x hx
  rw [a2] at he
  cases hi : x.is with
  | false => rfl
  | true => have := d he x (a3 x hx hi); rw [hi] at this; cases this
theorem Thin.dry {Q Q' : Rp} (h : Thin Q Q') (d : Dry Q) : Dry Q' := fun i i0 i1 => by
  rw [h.len] at i1
  exact h.dryAt i0 i1 (d i i0 i1)
theorem Thin.n {Q Q' : Rp} (h : Thin Q Q') (a : Int) : nOf Q' a = nOf Q a := by
  unfold nOf
  rw [h.len]
  split
  · rename_i hi; exact (h.at_ a hi.1 hi.2).1
  · rfl
theorem thin_empty {Q : Rp} {i f : Int} (h0 : 0 ≤ i) (h1 : i < Q.cells.length) : Thin Q (emptyQ Q i f) := by
  refine ⟨(emptyQ_lens h0 h1).1, fun j j0 j1 => ?_⟩
  rw [emptyQ_nth h0 h1 j0]
  split
  · rename_i e
    subst e
    refine ⟨rfl, rfl, fun x hx hi => ?_⟩
    rcases List.mem_or_eq_of_mem_set hx with hx | rfl
    · exact hx
    · cases hi
  · exact ⟨rfl, rfl, fun x hx _ => hx⟩
theorem thin_weak {Q : Rp} (a : Int) : Thin Q (weakQ Q a) := by
  refine ⟨by simp [weakQ], fun j j0 j1 => ?_⟩
  unfold weakQ
  rw [nth_clr j0 j1]
  refine ⟨rfl, rfl, fun x hx hi => ?_⟩
  obtain ⟨y, hy, rfl⟩ := List.mem_map.1 hx
  unfold clr at hi ⊢
  split at hi
  · cases hi
  · rename_i hn; rw [if_neg hn]; exact hy
theorem thin_empties {Q : Rp} {a : Int} (h0 : 0 ≤ a) (h1 : a < Q.cells.length) : ∀ n : Nat, Thin Q (emptiesQ Q a n) ∧ ∀ j : Nat, j < n → j < (nth Q.cells a).fs.length → (nth (nth (emptiesQ Q a n).cells a).fs (j : Int)).is = false
  | 0 => ⟨.refl, fun j hj => by omega⟩
  | n + 1 => by
    obtain ⟨t, z⟩ := thin_empties h0 h1 n
    obtain ⟨l1, l2⟩ := emptiesQ_lens (S := Q) (a := a) h0 h1 n
    have h1' : a < (emptiesQ Q a n).cells.length := by rw [l1]; exact h1
    refine ⟨t.trans (thin_empty h0 h1'), fun j hj hl => ?_⟩
    show (nth (nth (emptyQ (emptiesQ Q a n) a n).cells a).fs (j : Int)).is = false
    rw [emptyQ_nth h0 h1' h0, if_pos rfl]
    simp only
    by_cases e : (n : Int) < (nth (emptiesQ Q a n).cells a).fs.length
    · rw [nth_set (by omega) e (by omega)]
      by_cases ej : (n : Int) = j
      · rw [if_pos ej]
      · rw [if_neg ej]; exact z j (by omega) hl
    · rw [List.set_eq_of_length_le (by omega)]
      exact z j (by rw [l2] at e; omega) hl
theorem nOf_set {Q : Rp} {i : Int} {c : Cel} (h0 : 0 ≤ i) (h1 : i < Q.cells.length) (a : Int) : nOf (qset Q i c) a = if a = i then c.n else nOf Q a := by
  unfold nOf
  rw [qset_len]
  by_cases e : a = i
  · subst e; rw [if_pos ⟨h0, h1⟩, if_pos rfl, qset_nth h0 h1 h0, if_pos rfl]
  · rw [if_neg e]
    split
    · rename_i hi; rw [qset_nth h0 h1 hi.1, if_neg (Ne.symm e)]
    · rfl
theorem dry_set {Q : Rp} (d : Dry Q) {i : Int} {c : Cel} (h0 : 0 ≤ i) (h1 : i < Q.cells.length) (hc : c.e = true → ∀ x ∈ c.fs, x.is = false) : Dry (qset Q i c) := by
  intro j j0 j1
  rw [qset_len] at j1
  unfold DryAt
  rw [qset_nth h0 h1 j0]
  split
  · exact hc
  · exact d j j0 j1
theorem end_law {Q : Rp} (d : Dry Q) {a : Int} (h0 : 0 ≤ a) (h1 : a < Q.cells.length) : Dry (endQ Q a) ∧ ∀ i, nOf (endQ Q a) i = nOf Q i := by
  obtain ⟨Q1, hQ1⟩ : ∃ Q1, weakQ (qset Q a { nth Q.cells a with e := true }) a = Q1 := ⟨_, rfl⟩
  have t1 : Thin (qset Q a { nth Q.cells a with e := true }) Q1 := by rw [← hQ1]; exact thin_weak a
  have l1 : Q1.cells.length = Q.cells.length := by rw [t1.len, qset_len]
  have h1' : a < Q1.cells.length := by rw [l1]; exact h1
  obtain ⟨t2, z⟩ := thin_empties h0 h1' (nth Q.cells a).fs.length
  obtain ⟨q1, q2⟩ := emptiesQ_lens (S := Q1) (a := a) h0 h1' (nth Q.cells a).fs.length
  have lw := weakQ_lens (S := qset Q a { nth Q.cells a with e := true }) (a := a) h0 (by rw [qset_len]; exact h1)
  rw [hQ1, qset_nth h0 h1 h0, if_pos rfl] at lw
  have hE : endQ Q a = emptiesQ Q1 a (nth Q.cells a).fs.length := by unfold endQ; rw [hQ1]
  rw [hE]
  refine ⟨fun i i0 i1 => ?_, fun i => ?_⟩
  · rw [q1, l1] at i1
    by_cases e : i = a
    · subst e
      intro _ x hx
      obtain ⟨j, hj, rfl⟩ := mem_nth hx
      rw [q2] at hj
      refine z j ?_ hj
      have := lw.2
      have e2 : ({ nth Q.cells i with e := true } : Cel).fs.length = (nth Q.cells i).fs.length := rfl
      rw [e2] at this
      omega
    · refine t2.dryAt i0 (by rw [l1]; exact i1) (t1.dryAt i0 (by rw [qset_len]; exact i1) ?_)
      unfold DryAt
      rw [qset_nth h0 h1 i0, if_neg (Ne.symm e)]
      exact d i i0 i1
  · rw [t2.n, t1.n, nOf_set h0 h1]
    split
    · rename_i e; subst e; unfold nOf; rw [if_pos ⟨h0, h1⟩]
    · rfl
/-- What an act does to both. -/
theorem make_law {Q : Rp} (d : Dry Q) (n : Int) (w : Bool) : Dry (makeQ Q n w).1 ∧ ∀ a, nOf (makeQ Q n w).1 a = nOf Q a := by
  unfold makeQ makeR
  by_cases c1 : n < 0 ∨ 8 < n
  · rw [if_pos c1]; exact ⟨d, fun _ => rfl⟩
  · rw [if_neg c1]
    by_cases c2 : Q.hp.cells.length = 100
    · rw [if_pos c2]; exact ⟨d, fun _ => rfl⟩
    · rw [if_neg c2]
      simp only [Hp.rp, Rp.hp]
      refine ⟨fun i i0 i1 => ?_, fun a => ?_⟩
      · simp only [List.length_append, List.length_singleton, Int.natCast_add, Int.natCast_one] at i1
        unfold DryAt
        by_cases e : i = Q.cells.length
        · simp only [nth_append_last e]; intro h; cases h
        · simp only [nth_append i0 (show i < Q.cells.length by omega)]
          exact d i i0 (by omega)
      · unfold nOf
        simp only [List.length_append, List.length_singleton, Int.natCast_add, Int.natCast_one]
        by_cases e : a = Q.cells.length
        · rw [if_pos (by omega), if_neg (by omega), nth_append_last e]
        · by_cases hi : 0 ≤ a ∧ a < Q.cells.length
          · rw [if_pos (by omega), if_pos hi, nth_append hi.1 hi.2]
          · rw [if_neg (by omega), if_neg hi]
theorem set_law {Q : Rp} (d : Dry Q) (i f to : Int) (w : Bool) : Dry (setQ Q i f to w).1 ∧ ∀ a, nOf (setQ Q i f to w).1 a = nOf Q a := by
  unfold setQ
  by_cases c1 : hasFieldR Q.hp i f ≠ 0
  · rw [if_pos c1]; exact ⟨d, fun _ => rfl⟩
  · rw [if_neg c1]
    by_cases c2 : hasR Q.hp to true ≠ 0
    · rw [if_pos c2]; exact ⟨d, fun _ => rfl⟩
    · rw [if_neg c2]
      obtain ⟨q1, q2, q3, q4, q5⟩ := hasFieldR_in (Decidable.not_not.1 c1)
      simp only [Rp.hp_cells] at q2 q3 q5
      have t := thin_empty (f := f) q1 q2
      have h1' : i < (emptyQ Q i f).cells.length := by rw [t.len]; exact q2
      obtain ⟨a1, a2, _⟩ := t.at_ i q1 q2
      refine ⟨dry_set (t.dry d) q1 h1' (fun he => ?_), fun a => ?_⟩
      · have he : (nth (emptyQ Q i f).cells i).e = true := he
        rw [a2, q3] at he; cases he
      · rw [nOf_set q1 h1', ← t.n a]
        split
        · rename_i e; subst e; unfold nOf; rw [if_pos ⟨q1, h1'⟩]
        · rfl
theorem clear_law {Q : Rp} (d : Dry Q) (i f : Int) : Dry (clearQ Q i f).1 ∧ ∀ a, nOf (clearQ Q i f).1 a = nOf Q a := by
  unfold clearQ
  by_cases c1 : hasFieldR Q.hp i f ≠ 0
  · rw [if_pos c1]; exact ⟨d, fun _ => rfl⟩
  · rw [if_neg c1]
    obtain ⟨q1, q2, q3, q4, q5⟩ := hasFieldR_in (Decidable.not_not.1 c1)
    have t := thin_empty (Q := Q) (f := f) q1 q2
    exact ⟨t.dry d, t.n⟩
theorem root_law {Q : Rp} (d : Dry Q) (i : Int) : Dry (rootQ Q i).1 ∧ ∀ a, nOf (rootQ Q i).1 a = if (rootQ Q i).2 = 0 ∧ a = i then nOf Q a + 1 else nOf Q a := by
  unfold rootQ
  by_cases c1 : hasR Q.hp i true ≠ 0
  · rw [if_pos c1]; exact ⟨d, fun a => by rw [if_neg (fun h => c1 h.1)]⟩
  · rw [if_neg c1]
    obtain ⟨q1, q2, q3⟩ := hasR_in (Decidable.not_not.1 c1)
    simp only [Rp.hp_cells] at q2 q3
    refine ⟨dry_set d q1 q2 (fun he => ?_), fun a => ?_⟩
    · have he : (nth Q.cells i).e = true := he
      rw [q3 trivial] at he; cases he
    · simp only [nOf_set q1 q2, true_and]
      split
      · rename_i e; subst e; unfold nOf; rw [if_pos ⟨q1, q2⟩]
      · rfl
theorem note_law {Q : Rp} (i : Int) : Thin Q (noteQ Q i) := by
  unfold noteQ
  split
  · exact ⟨rfl, fun i _ _ => ⟨rfl, rfl, fun x h _ => h⟩⟩
  · exact .refl
theorem drop_law {Q : Rp} (d : Dry Q) (i : Int) : Dry (dropQ Q i).1 ∧ ∀ a, nOf (dropQ Q i).1 a = if (dropQ Q i).2 = 0 ∧ a = i then nOf Q a - 1 else nOf Q a := by
  unfold dropQ
  by_cases c1 : hasR Q.hp i true ≠ 0
  · rw [if_pos c1]; exact ⟨d, fun a => by rw [if_neg (fun h => c1 h.1)]⟩
  · rw [if_neg c1]
    obtain ⟨q1, q2, q3⟩ := hasR_in (Decidable.not_not.1 c1)
    simp only [Rp.hp_cells] at q2 q3
    by_cases c2 : (nth Q.cells i).n = 0
    · rw [if_pos c2]; exact ⟨d, fun a => by rw [if_neg (fun h => absurd (show (7 : Int) = 0 from h.1) (by decide))]⟩
    · rw [if_neg c2]
      have t := note_law (Q := qset Q i { nth Q.cells i with n := (nth Q.cells i).n - 1 }) i
      refine ⟨t.dry (dry_set d q1 q2 (fun he => ?_)), fun a => ?_⟩
      · have he : (nth Q.cells i).e = true := he
        rw [q3 trivial] at he; cases he
      · simp only [true_and]
        rw [t.n, nOf_set q1 q2]
        split
        · rename_i e; subst e; unfold nOf; rw [if_pos ⟨q1, q2⟩]
        · rfl
theorem next_law {A : Int} (hA : A ≤ 2 ^ 40) : ∀ (n : Nat) {S : Hp} {Q : Rp}, Both A S Q → phi Q < n → phi Q < 2 ^ 38 → Dry Q →
    Dry (nextQ n Q).1 ∧ ∀ a, nOf (nextQ n Q).1 a = if (nextQ n Q).2.2 = true ∧ a = (nextQ n Q).2.1 then nOf Q a + 1 else nOf Q a
  | 0, S, Q, _, h, _, _ => absurd h (by omega)
  | n + 1, S, Q, h, hn, hp, d => by
    cases hq : Q.notes with
    | nil =>
      simp only [nextQ, hq]
      exact ⟨d, fun a => by simp⟩
    | cons a r =>
      obtain ⟨a0, a1⟩ := h.good.notes a (by rw [hq]; exact List.mem_cons_self)
      have hct := h.good.counted a0 a1
      obtain ⟨ht, htp⟩ := both_take h hq
      have gn := h.good.n _ (nth_mem a0 a1)
      simp only [nextQ, hq]
      by_cases c1 : (nth Q.cells a).e = true ∨ 0 < countedR Q a
      · simp only [if_pos c1]
        exact next_law hA n ht (by omega) (by omega) d
      · simp only [if_neg c1]
        have he : (nth Q.cells a).e = false := by
          cases e : (nth Q.cells a).e with
          | false => rfl
          | true => exact absurd (.inl e) c1
        have hz : (nth Q.cells a).n = 0 ∧ refs Q.cells a = 0 := by
          have : ¬ 0 < countedR Q a := fun e => c1 (.inr e)
          rw [hct] at this
          omega
        by_cases c2 : (nth Q.cells a).w = true ∧ (nth Q.cells a).t = false
        · simp only [if_pos c2]
          refine ⟨dry_set (Q := { Q with notes := r }) d a0 a1 (fun e => ?_), fun b => ?_⟩
          · have e : (nth Q.cells a).e = true := e
            rw [he] at e; cases e
          · rw [nOf_set (Q := { Q with notes := r }) a0 a1]
            simp only [true_and]
            split
            · rename_i e; subst e; unfold nOf; rw [if_pos ⟨a0, a1⟩]
            · rfl
        · simp only [if_neg c2]
          obtain ⟨e1, e2, e3, e4⟩ := both_end ht a0 a1 he hz hA (by omega)
          obtain ⟨f1, f2⟩ := end_law (Q := { Q with notes := r }) d a0 a1
          obtain ⟨g1, g2⟩ := next_law hA n e1 (by omega) (by omega) f1
          exact ⟨g1, fun b => by rw [g2, f2]; rfl⟩
/-- An ended cell refers to none. -/
theorem Dry.cnt {Q : Rp} (d : Dry Q) {i : Int} (i0 : 0 ≤ i) (i1 : i < Q.cells.length) (he : (nth Q.cells i).e = true) (a : Int) : cnt (nth Q.cells i).fs a = 0 := by
  unfold Go.Am.cnt
  rw [List.countP_eq_zero]
  intro x hx
  simp [strongTo, d i i0 i1 he x hx]
theorem dry_none : Dry Rp.none := fun i i0 i1 => by simp [Rp.none] at i1; omega
theorem nOf_bnd {A : Int} {S : Hp} {Q : Rp} (h : Both A S Q) (hA : A ≤ 2 ^ 40) (a : Int) : 0 ≤ nOf Q a ∧ nOf Q a ≤ 2 ^ 40 := by
  unfold nOf
  split
  · rename_i hi
    have := h.good.n _ (nth_mem hi.1 hi.2)
    have : 0 ≤ age (nth Q.cells a) := by unfold age; split <;> omega
    omega
  · omega
end Go.Am
