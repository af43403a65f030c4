/- The plain law of the heap: who has a count of 0 is noted; how often who is told. -/
import Derived.Test.YtigpdaofldfkoaaAmHeapU
import Derived.Test.YtigpdaofldfkoaaAmHeapR
set_option linter.unusedVariables false
set_option linter.unusedSimpArgs false
namespace Go.Am
def NotedX (Q : Rp) (i : Int) : Prop := ∀ a : Int, 0 ≤ a → a < Q.cells.length → a ≠ i → (nth Q.cells a).e = false → (nth Q.cells a).n + refs Q.cells a = 0 → a ∈ Q.notes
/-- Who has not ended and has no reference is noted. -/
def Noted (Q : Rp) : Prop := ∀ a : Int, 0 ≤ a → a < Q.cells.length → (nth Q.cells a).e = false → (nth Q.cells a).n + refs Q.cells a = 0 → a ∈ Q.notes
/-- How often a cell was told. -/
def tOf (Q : Rp) (a : Int) : Nat := if 0 ≤ a ∧ a < Q.cells.length ∧ (nth Q.cells a).t = true then 1 else 0
/-- An act's law: l is what it tells. -/
structure Told (Q Q' : Rp) (l : List Int) : Prop where
  noted : Noted Q → Noted Q'
  told : ∀ a, tOf Q' a = tOf Q a + l.count a
theorem Told.refl (Q : Rp) : Told Q Q [] := ⟨id, fun a => by simp⟩
theorem Told.trans {Q Q1 Q2 : Rp} {l m : List Int} (h : Told Q Q1 l) (k : Told Q1 Q2 m) : Told Q Q2 (l ++ m) :=
  ⟨fun n => k.noted (h.noted n), fun a => by rw [k.told, h.told, List.count_append]; omega⟩
theorem noted_of {Q Q' : Rp} (h : Noted Q) (hl : Q'.cells.length = Q.cells.length) (hn : ∀ a ∈ Q.notes, a ∈ Q'.notes)
    (hc : ∀ a : Int, 0 ≤ a → a < Q.cells.length → (nth Q'.cells a).e = false → (nth Q'.cells a).n + refs Q'.cells a = 0 → ((nth Q.cells a).e = false ∧ (nth Q.cells a).n + refs Q.cells a = 0) ∨ a ∈ Q'.notes) : Noted Q' := by
  intro a a0 a1 he hz
  rw [hl] at a1
  rcases hc a a0 a1 he hz with ⟨q1, q2⟩ | q
  · exact hn a (h a a0 a1 q1 q2)
  · exact q
theorem tOf_same {Q Q' : Rp} (hl : Q'.cells.length = Q.cells.length) (h : ∀ a : Int, 0 ≤ a → a < Q.cells.length → (nth Q'.cells a).t = (nth Q.cells a).t) (a : Int) : tOf Q' a = tOf Q a := by
  unfold tOf
  rw [hl]
  by_cases hi : 0 ≤ a ∧ a < Q.cells.length
  · rw [h a hi.1 hi.2]
  · rw [if_neg (fun c => hi ⟨c.1, c.2.1⟩), if_neg (fun c => hi ⟨c.1, c.2.1⟩)]
theorem NotedX.note {Q : Rp} {i : Int} (h : NotedX Q i) : Noted (noteQ Q i) := by
  intro a a0 a1 he hz
  unfold noteQ at *
  by_cases hc : countedR Q i = 0
  · rw [if_pos hc] at a1 he hz ⊢
    by_cases e : a = i
    · simp [e]
    · have := h a a0 a1 e he hz; simp [this]
  · rw [if_neg hc] at a1 he hz ⊢
    by_cases e : a = i
    · subst e
      exfalso
      apply hc
      unfold countedR
      rw [if_neg (by rw [he]; simp)]
      exact hz
    · exact h a a0 a1 e he hz
theorem note_cells (Q : Rp) (i : Int) : (noteQ Q i).cells = Q.cells := by unfold noteQ; split <;> rfl
theorem noted_empty {Q : Rp} {i f : Int} (h0 : 0 ≤ i) (h1 : i < Q.cells.length) (f0 : 0 ≤ f) (f1 : f < (nth Q.cells i).fs.length) (h : Noted Q) : Noted (emptyQ Q i f) := by
  obtain ⟨x, hx⟩ : ∃ x, nth (nth Q.cells i).fs f = x := ⟨_, rfl⟩
  obtain ⟨Q1, hQ1⟩ : ∃ Q1, qset Q i { nth Q.cells i with fs := (nth Q.cells i).fs.set f.toNat ⟨false, false, 0⟩ } = Q1 := ⟨_, rfl⟩
  have hl1 : Q1.cells.length = Q.cells.length := by rw [← hQ1]; simp
  have refsE : ∀ a : Int, (refs Q1.cells a : Int) + one_ (strongTo a x) = refs Q.cells a := by
    intro a
    have e1 := refs_set h0 h1 { nth Q.cells i with fs := (nth Q.cells i).fs.set f.toNat ⟨false, false, 0⟩ } a
    have e2 := cnt_set f0 f1 ⟨false, false, 0⟩ a
    rw [hx, zero_strong] at e2
    rw [← hQ1]
    simp only [qset] at e1 ⊢
    simp [one_] at e2
    unfold one_
    omega
  have cellQ1 : ∀ a : Int, 0 ≤ a → (nth Q1.cells a).n = (nth Q.cells a).n ∧ (nth Q1.cells a).e = (nth Q.cells a).e := fun a ha => by
    rw [← hQ1, qset_nth h0 h1 ha]
    split
    · rename_i e; subst e; exact ⟨rfl, rfl⟩
    · exact ⟨rfl, rfl⟩
  have hn1 : Q1.notes = Q.notes := by rw [← hQ1]; rfl
  have hQ : emptyQ Q i f = if x.is = true ∧ x.weak = false then noteQ Q1 x.to else Q1 := by unfold emptyQ; simp only [hx, hQ1]
  have oth : ∀ a, strongTo a x = false → 0 ≤ a → a < Q1.cells.length → (nth Q1.cells a).e = false → (nth Q1.cells a).n + refs Q1.cells a = 0 → a ∈ Q1.notes := by
    intro a hs a0 a1 he hz
    have e1 := refsE a
    rw [hs] at e1
    simp [one_] at e1
    rw [hl1] at a1
    rw [(cellQ1 a a0).1] at hz
    rw [(cellQ1 a a0).2] at he
    rw [hn1]
    exact h a a0 a1 he (by omega)
  rw [hQ]
  by_cases hst : x.is = true ∧ x.weak = false
  · rw [if_pos hst]
    refine NotedX.note fun a a0 a1 hne he hz => oth a ?_ a0 a1 he hz
    cases hb : strongTo a x with
    | false => rfl
    | true => exact absurd (strong_eq.1 hb).2.2.symm hne
  · rw [if_neg hst]
    intro a a0 a1 he hz
    refine oth a ?_ a0 a1 he hz
    cases hb : strongTo a x with
    | false => rfl
    | true => exact absurd ⟨(strong_eq.1 hb).1, (strong_eq.1 hb).2.1⟩ hst
theorem tOf_empty {Q : Rp} {i f : Int} (h0 : 0 ≤ i) (h1 : i < Q.cells.length) (a : Int) : tOf (emptyQ Q i f) a = tOf Q a := by
  refine tOf_same (emptyQ_lens h0 h1).1 (fun a a0 a1 => ?_) a
  rw [emptyQ_nth h0 h1 a0]
  split
  · rename_i e; subst e; rfl
  · rfl
theorem told_make {Q : Rp} (hn : ∀ c ∈ Q.cells, 0 ≤ c.n) (n : Int) (w : Bool) : Told Q (makeQ Q n w).1 [] := by
  unfold makeQ makeR
  by_cases c1 : n < 0 ∨ 8 < n
  · rw [if_pos c1]; exact .refl Q
  · rw [if_neg c1]
    by_cases c2 : Q.hp.cells.length = 100
    · rw [if_pos c2]; exact .refl Q
    · rw [if_neg c2]
      simp only [Hp.rp, Rp.hp]
      refine ⟨fun h a a0 a1 he hz => ?_, fun a => ?_⟩
      · simp only [List.length_append, List.length_singleton, Int.natCast_add, Int.natCast_one] at a1
        by_cases e : a = Q.cells.length
        · simp [e]
        · simp only [nth_append a0 (show a < Q.cells.length by omega)] at he hz
          have hc := hn _ (nth_mem a0 (show a < Q.cells.length by omega))
          have hr : refs (Q.cells ++ [⟨List.replicate n.toNat ⟨false, false, 0⟩, w, false, false, 0⟩]) a = refs Q.cells a + cnt (List.replicate n.toNat ⟨false, false, 0⟩) a := by simp [refs]
          rw [hr] at hz
          exact List.mem_append.2 (.inl (h a a0 (by omega) he (by omega)))
      · unfold tOf
        simp only [List.length_append, List.length_singleton, Int.natCast_add, Int.natCast_one]
        by_cases e : a = Q.cells.length
        · rw [nth_append_last e, if_neg (by simp), if_neg (by omega)]; rfl
        · by_cases hi : 0 ≤ a ∧ a < Q.cells.length
          · rw [nth_append hi.1 hi.2]
            by_cases ht : (nth Q.cells a).t = true
            · rw [if_pos ⟨hi.1, by omega, ht⟩, if_pos ⟨hi.1, hi.2, ht⟩]; rfl
            · rw [if_neg (fun c => ht c.2.2), if_neg (fun c => ht c.2.2)]; rfl
          · rw [if_neg (fun c => hi ⟨c.1, by omega⟩), if_neg (fun c => hi ⟨c.1, c.2.1⟩)]; rfl
theorem told_set {A : Int} {S : Hp} {Q : Rp} (hB : Both A S Q) (i f to : Int) (w : Bool) : Told Q (setQ Q i f to w).1 [] := by
  unfold setQ
  by_cases c1 : hasFieldR Q.hp i f ≠ 0
  · rw [if_pos c1]; exact .refl Q
  · rw [if_neg c1]
    by_cases c2 : hasR Q.hp to true ≠ 0
    · rw [if_pos c2]; exact .refl Q
    · rw [if_neg c2]
      obtain ⟨q1, q2, q3, q4, q5⟩ := hasFieldR_in (Decidable.not_not.1 c1)
      simp only [Rp.hp_cells] at q2 q3 q5
      obtain ⟨g, gp⟩ := both_empty hB q1 q2 q4 q5
      obtain ⟨l1, l2⟩ := emptyQ_lens (S := Q) (a := i) (f := f) q1 q2
      have hz : (nth (nth (emptyQ Q i f).cells i).fs f).is = false := by
        rw [emptyQ_nth q1 q2 q1, if_pos rfl]
        simp only
        rw [nth_set q4 q5 q4, if_pos rfl]
      have i1 : i < (emptyQ Q i f).cells.length := by rw [l1]; exact q2
      have f1 : f < (nth (emptyQ Q i f).cells i).fs.length := by rw [l2]; exact q5
      refine ⟨fun h => ?_, fun a => ?_⟩
      · have hE := noted_empty q1 q2 q4 q5 h
        refine noted_of hE (by simp) (fun a ha => ha) fun a a0 a1 he hzz => .inl ?_
        have e1 := refs_set q1 i1 { nth (emptyQ Q i f).cells i with fs := (nth (emptyQ Q i f).cells i).fs.set f.toNat ⟨true, w, to⟩ } a
        have e2 := cnt_set q4 f1 ⟨true, w, to⟩ a
        have hs : strongTo a (nth (nth (emptyQ Q i f).cells i).fs f) = false := by simp [strongTo, hz]
        rw [hs, show one_ false = 0 from rfl] at e2
        simp only [qset_nth q1 i1 a0] at he hzz
        simp only [qset] at hzz e1
        have gn := (g.good.n _ (nth_mem a0 a1)).1
        have hnn : (if i = a then ({ nth (emptyQ Q i f).cells i with fs := (nth (emptyQ Q i f).cells i).fs.set f.toNat ⟨true, w, to⟩ } : Cel) else nth (emptyQ Q i f).cells a).n = (nth (emptyQ Q i f).cells a).n := by
          split
          · rename_i e; subst e; rfl
          · rfl
        have hee : (if i = a then ({ nth (emptyQ Q i f).cells i with fs := (nth (emptyQ Q i f).cells i).fs.set f.toNat ⟨true, w, to⟩ } : Cel) else nth (emptyQ Q i f).cells a).e = (nth (emptyQ Q i f).cells a).e := by
          split
          · rename_i e; subst e; rfl
          · rfl
        rw [hee] at he
        rw [hnn] at hzz
        refine ⟨he, ?_⟩
        omega
      · rw [show ([] : List Int).count a = 0 from rfl, Nat.add_zero, ← tOf_empty (f := f) q1 q2 a]
        refine tOf_same (by simp) (fun a a0 a1 => ?_) a
        simp only [qset_nth q1 i1 a0]
        split
        · rename_i e; subst e; rfl
        · rfl
theorem told_clear {Q : Rp} (i f : Int) : Told Q (clearQ Q i f).1 [] := by
  unfold clearQ
  by_cases c1 : hasFieldR Q.hp i f ≠ 0
  · rw [if_pos c1]; exact .refl Q
  · rw [if_neg c1]
    obtain ⟨q1, q2, q3, q4, q5⟩ := hasFieldR_in (Decidable.not_not.1 c1)
    simp only [Rp.hp_cells] at q2 q3 q5
    exact ⟨noted_empty q1 q2 q4 q5, fun a => by rw [tOf_empty q1 q2]; rfl⟩
/-- A cell's number changes. -/
theorem notedX_n {Q : Rp} {i : Int} (h0 : 0 ≤ i) (h1 : i < Q.cells.length) {c : Cel} (hf : c.fs = (nth Q.cells i).fs) (h : NotedX Q i) : NotedX (qset Q i c) i := by
  intro a a0 a1 hne he hz
  rw [qset_len] at a1
  rw [qset_nth h0 h1 a0, if_neg (Ne.symm hne)] at he hz
  have := refs_same h0 h1 hf a
  simp only [qset] at hz
  rw [this] at hz
  exact h a a0 a1 hne he hz
theorem Noted.x {Q : Rp} (h : Noted Q) (i : Int) : NotedX Q i := fun a a0 a1 _ he hz => h a a0 a1 he hz
theorem tOf_n {Q : Rp} {i : Int} (h0 : 0 ≤ i) (h1 : i < Q.cells.length) {c : Cel} (ht : c.t = (nth Q.cells i).t) (a : Int) : tOf (qset Q i c) a = tOf Q a := by
  refine tOf_same (by simp) (fun a a0 a1 => ?_) a
  rw [qset_nth h0 h1 a0]
  split
  · rename_i e; subst e; exact ht
  · rfl
theorem told_root {A : Int} {S : Hp} {Q : Rp} (hB : Both A S Q) (i : Int) : Told Q (rootQ Q i).1 [] := by
  unfold rootQ
  by_cases c1 : hasR Q.hp i true ≠ 0
  · rw [if_pos c1]; exact .refl Q
  · rw [if_neg c1]
    obtain ⟨q1, q2, q3⟩ := hasR_in (Decidable.not_not.1 c1)
    simp only [Rp.hp_cells] at q2 q3
    refine ⟨fun h a a0 a1 he hz => ?_, fun a => (tOf_n (c := { nth Q.cells i with n := (nth Q.cells i).n + 1 }) q1 q2 rfl a).trans (by simp)⟩
    by_cases e : a = i
    · subst e
      have gn := (hB.good.n _ (nth_mem q1 q2)).1
      simp only [qset_nth q1 q2 q1, if_pos] at hz
      exfalso
      omega
    · exact notedX_n q1 q2 (c := { nth Q.cells i with n := (nth Q.cells i).n + 1 }) rfl (h.x i) a a0 a1 e he hz
theorem tOf_note (Q : Rp) (i a : Int) : tOf (noteQ Q i) a = tOf Q a := by unfold tOf; rw [note_cells]
theorem told_drop {Q : Rp} (i : Int) : Told Q (dropQ Q i).1 [] := by
  unfold dropQ
  by_cases c1 : hasR Q.hp i true ≠ 0
  · rw [if_pos c1]; exact .refl Q
  · rw [if_neg c1]
    obtain ⟨q1, q2, q3⟩ := hasR_in (Decidable.not_not.1 c1)
    simp only [Rp.hp_cells] at q2 q3
    by_cases c2 : (nth Q.cells i).n = 0
    · rw [if_pos c2]; exact .refl Q
    · rw [if_neg c2]
      exact ⟨fun h => NotedX.note (notedX_n q1 q2 rfl (h.x i)), fun a => (tOf_note _ i a).trans ((tOf_n (c := { nth Q.cells i with n := (nth Q.cells i).n - 1 }) q1 q2 rfl a).trans (by simp))⟩
theorem noted_weak {Q : Rp} (a : Int) (h : Noted Q) : Noted (weakQ Q a) := by
  refine noted_of h (by simp [weakQ]) (fun x hx => hx) fun x x0 x1 he hz => .inl ?_
  unfold weakQ at he hz
  simp only at he hz
  rw [nth_clr x0 x1] at he hz
  rw [refs_clr] at hz
  exact ⟨he, hz⟩
theorem noted_empties {Q : Rp} {a : Int} (h0 : 0 ≤ a) (h1 : a < Q.cells.length) (h : Noted Q) : ∀ n : Nat, n ≤ (nth Q.cells a).fs.length → Noted (emptiesQ Q a n) ∧ ∀ x, tOf (emptiesQ Q a n) x = tOf Q x
  | 0, _ => ⟨h, fun _ => rfl⟩
  | n + 1, hn => by
    obtain ⟨g, gt⟩ := noted_empties h0 h1 h n (by omega)
    obtain ⟨l1, l2⟩ := emptiesQ_lens (S := Q) (a := a) h0 h1 n
    have h1' : a < (emptiesQ Q a n).cells.length := by rw [l1]; exact h1
    exact ⟨noted_empty h0 h1' (by omega) (by rw [l2]; omega) g, fun x => by show tOf (emptyQ _ _ _) x = _; rw [tOf_empty h0 h1', gt]⟩
theorem noted_end {Q : Rp} {a : Int} (h0 : 0 ≤ a) (h1 : a < Q.cells.length) (h : NotedX Q a) : Noted (endQ Q a) ∧ ∀ x, tOf (endQ Q a) x = tOf Q x := by
  have n1 : Noted (qset Q a { nth Q.cells a with e := true }) := by
    intro x x0 x1 he hz
    by_cases e : x = a
    · subst e
      rw [qset_nth h0 h1 h0, if_pos rfl] at he
      cases he
    · exact notedX_n h0 h1 (c := { nth Q.cells a with e := true }) rfl h x x0 x1 e he hz
  have n2 := noted_weak a n1
  have lw := weakQ_lens (S := qset Q a { nth Q.cells a with e := true }) (a := a) h0 (by rw [qset_len]; exact h1)
  rw [qset_nth h0 h1 h0, if_pos rfl] at lw
  have l2 : (nth (weakQ (qset Q a { nth Q.cells a with e := true }) a).cells a).fs.length = (nth Q.cells a).fs.length := lw.2
  obtain ⟨n3, t3⟩ := noted_empties h0 (by rw [lw.1, qset_len]; exact h1) n2 (nth Q.cells a).fs.length (by rw [l2]; exact Nat.le_refl _)
  refine ⟨n3, fun x => ?_⟩
  show tOf (emptiesQ _ _ _) x = _
  rw [t3]
  rw [← tOf_n (c := { nth Q.cells a with e := true }) h0 h1 rfl x]
  refine tOf_same (by simp [weakQ]) (fun y y0 y1 => ?_) x
  unfold weakQ
  simp only
  rw [nth_clr y0 y1]
  rfl
theorem told_next {A : Int} (hA : A ≤ 2 ^ 40) : ∀ (n : Nat) {S : Hp} {Q : Rp}, Both A S Q → phi Q < n → phi Q < 2 ^ 38 →
    Told Q (nextQ n Q).1 (if (nextQ n Q).2.2 = true then [(nextQ n Q).2.1] else []) ∧ ((nextQ n Q).2.2 = false → (nextQ n Q).1.notes = [])
  | 0, S, Q, _, h, _ => absurd h (by omega)
  | n + 1, S, Q, h, hn, hp => by
    cases hq : Q.notes with
    | nil =>
      simp only [nextQ, hq]
      exact ⟨.refl Q, fun _ => trivial⟩
    | cons a r =>
      obtain ⟨a0, a1⟩ := h.good.notes a (by rw [hq]; exact List.mem_cons_self)
      have hct := h.good.counted a0 a1
      obtain ⟨ht, htp⟩ := both_take h hq
      have gn := (h.good.n _ (nth_mem a0 a1)).1
      have px : Noted Q → NotedX { Q with notes := r } a := by
        intro hN x x0 x1 hne he hz
        have := hN x x0 x1 he hz
        rw [hq] at this
        rcases List.mem_cons.1 this with q | q
        · exact absurd q hne
        · exact q
      simp only [nextQ, hq]
      by_cases c1 : (nth Q.cells a).e = true ∨ 0 < countedR Q a
      · simp only [if_pos c1]
        obtain ⟨g1, g2⟩ := told_next hA n ht (by omega) (by omega)
        refine ⟨?_, g2⟩
        have t0 : Told Q { Q with notes := r } [] := ⟨fun hN x x0 x1 he hz => by
          by_cases e : x = a
          · subst e
            exfalso
            rcases c1 with c1 | c1
            · have he : (nth Q.cells x).e = false := he
              rw [he] at c1; cases c1
            · have hz : (nth Q.cells x).n + refs Q.cells x = 0 := hz
              rw [hct] at c1; omega
          · exact px hN x x0 x1 e he hz, fun x => by simp [tOf]⟩
        exact t0.trans g1
      · simp only [if_neg c1]
        have he : (nth Q.cells a).e = false := by
          cases e : (nth Q.cells a).e with
          | false => rfl
          | true => exact absurd (.inl e) c1
        have hz : (nth Q.cells a).n = 0 ∧ refs Q.cells a = 0 := by
          have : ¬ 0 < countedR Q a := fun e => c1 (.inr e)
          rw [hct] at this
          omega
        by_cases c2 : (nth Q.cells a).w = true ∧ (nth Q.cells a).t = false
        · simp only [if_pos c2]
          refine ⟨⟨fun hN x x0 x1 hxe hxz => ?_, fun x => ?_⟩, fun e => by cases e⟩
          · by_cases e : x = a
            · subst e
              rw [qset_nth (S := { Q with notes := r }) a0 a1 a0, if_pos rfl] at hxz
              simp only at hxz
              exfalso
              omega
            · exact notedX_n (Q := { Q with notes := r }) a0 a1 (c := { nth Q.cells a with t := true, n := (nth Q.cells a).n + 1 }) rfl (px hN) x x0 x1 e hxe hxz
          · unfold tOf
            rw [qset_len]
            by_cases e : x = a
            · subst e
              rw [if_pos ⟨a0, a1, by rw [qset_nth (S := { Q with notes := r }) a0 a1 a0, if_pos rfl]⟩, if_neg (by rw [c2.2]; simp)]
              simp
            · have hc : [a].count x = 0 := by rw [List.count_eq_zero]; simp [e]
              rw [if_pos trivial, hc, Nat.add_zero]
              by_cases x0 : 0 ≤ x
              · rw [qset_nth (S := { Q with notes := r }) a0 a1 x0, if_neg (Ne.symm e)]
              · rw [if_neg (fun c => x0 c.1), if_neg (fun c => x0 c.1)]
        · simp only [if_neg c2]
          obtain ⟨e1, e2, e3, e4⟩ := both_end ht a0 a1 he hz hA (by omega)
          obtain ⟨g1, g2⟩ := told_next hA n e1 (by omega) (by omega)
          refine ⟨?_, g2⟩
          have t0 : Told Q (endQ { Q with notes := r } a) [] := ⟨fun hN => (noted_end (Q := { Q with notes := r }) a0 a1 (px hN)).1, fun x => by
            by_cases hN : True
            · have : tOf (endQ { Q with notes := r } a) x = tOf { Q with notes := r } x := by
                unfold endQ
                obtain ⟨_, t3⟩ : True ∧ ∀ m, tOf (emptiesQ (weakQ (qset { Q with notes := r } a { nth Q.cells a with e := true }) a) a m) x = tOf { Q with notes := r } x := by
                  refine ⟨trivial, fun m => ?_⟩
                  have lw := weakQ_lens (S := qset { Q with notes := r } a { nth Q.cells a with e := true }) (a := a) a0 (by rw [qset_len]; exact a1)
                  have hl : a < (weakQ (qset { Q with notes := r } a { nth Q.cells a with e := true }) a).cells.length := by rw [lw.1, qset_len]; exact a1
                  have base : tOf (weakQ (qset { Q with notes := r } a { nth Q.cells a with e := true }) a) x = tOf { Q with notes := r } x := by
                    rw [← tOf_n (Q := { Q with notes := r }) (c := { nth Q.cells a with e := true }) a0 a1 rfl x]
                    refine tOf_same (by simp [weakQ]) (fun y y0 y1 => ?_) x
                    unfold weakQ
                    simp only
                    rw [nth_clr y0 y1]
                    rfl
                  induction m with
                  | zero => exact base
                  | succ m ih =>
                    show tOf (emptyQ _ _ _) x = _
                    obtain ⟨l1, l2⟩ := emptiesQ_lens (S := weakQ (qset { Q with notes := r } a { nth Q.cells a with e := true }) a) (a := a) a0 hl m
                    rw [tOf_empty a0 (by rw [l1]; exact hl), ih]
                exact t3 _
              rw [this]; simp [tOf]
            · exact absurd trivial hN⟩
          exact t0.trans g1
theorem told_settle {A : Int} (hA : A ≤ 2 ^ 40) {n : Nat} : ∀ (m : Nat) {S : Hp} {Q : Rp}, Both A S Q → phi Q < m → phi Q < n → phi Q < 2 ^ 38 →
    Told Q (settleQ m n Q).1 (settleQ m n Q).2 ∧ (settleQ m n Q).1.notes = []
  | 0, S, Q, _, h, _, _ => absurd h (by omega)
  | m + 1, S, Q, h, hm, hn, hp => by
    obtain ⟨i1, i2, i3, i4, i5, i6⟩ := both_next hA n h hn hp
    obtain ⟨dn, d0⟩ := told_next hA n h hn hp
    unfold settleQ
    by_cases ht : (nextQ n Q).2.2 = true
    · obtain ⟨j1, j2, j3, j4, j5⟩ := i6 ht
      rw [if_neg (by simp [ht])]
      obtain ⟨g, gp⟩ := both_unroot i4 j2 j3 j5
      have hd : dropQ (nextQ n Q).1 (nextQ n Q).2.1 = (noteQ (qset (nextQ n Q).1 (nextQ n Q).2.1 { nth (nextQ n Q).1.cells (nextQ n Q).2.1 with n := (nth (nextQ n Q).1.cells (nextQ n Q).2.1).n - 1 }) (nextQ n Q).2.1, 0) := by
        unfold dropQ
        have : hasR (nextQ n Q).1.hp (nextQ n Q).2.1 true = 0 := by
          unfold hasR
          simp only [Rp.hp_cells]
          rw [if_neg (by omega), if_neg (by rw [j4]; simp)]
        rw [this, if_neg (by simp), if_neg j5]
      have dd := told_drop (Q := (nextQ n Q).1) (nextQ n Q).2.1
      obtain ⟨Q2, hQ2⟩ : ∃ Q2, noteQ (qset (nextQ n Q).1 (nextQ n Q).2.1 { nth (nextQ n Q).1.cells (nextQ n Q).2.1 with n := (nth (nextQ n Q).1.cells (nextQ n Q).2.1).n - 1 }) (nextQ n Q).2.1 = Q2 := ⟨_, rfl⟩
      rw [hQ2] at hd g gp
      rw [hd] at dd ⊢
      rw [if_pos ht] at dn
      obtain ⟨k1, k2⟩ := told_settle (n := n) (Q := Q2) hA m g (by omega) (by omega) (by omega)
      exact ⟨by simpa using (dn.trans dd).trans k1, k2⟩
    · rw [if_pos (by simpa using ht)]
      rw [if_neg ht] at dn
      exact ⟨dn, d0 (by simpa using ht)⟩
theorem noted_none : Noted Rp.none := fun i i0 i1 => by simp [Rp.none] at i1; omega
theorem tOf_le (Q : Rp) (a : Int) : tOf Q a ≤ 1 := by unfold tOf; split <;> omega
end Go.Am
