/- The plain law of the heap: set, clear, root, drop. -/
import Derived.Test.YtpdedphkjkhddaaAmHeapM
set_option linter.unusedVariables false
set_option linter.unusedSimpArgs false
namespace Go.Am

theorem emptyQ_nth {Q : Rp} {i f j : Int} (h0 : 0 ≤ i) (h1 : i < Q.cells.length) (hj : 0 ≤ j) :
    nth (emptyQ Q i f).cells j = if i = j then { nth Q.cells i with fs := (nth Q.cells i).fs.set f.toNat ⟨false, false, 0⟩ } else nth Q.cells j := by
  rw [emptyQ_cells]; exact nth_set h0 h1 hj

/-- An empty field is set. -/
theorem both_put {A : Int} {S : Hp} {Q : Rp} (h : Both A S Q) {i f : Int} (h0 : 0 ≤ i) (h1 : i < Q.cells.length) (f0 : 0 ≤ f) (f1 : f < (nth Q.cells i).fs.length) (hz : (nth (nth Q.cells i).fs f).is = false)
    {to : Int} (t0 : 0 ≤ to) (t1 : to < Q.cells.length) (te : (nth Q.cells to).e = false) (weak : Bool) :
    Both A (if weak = true then setC S i { nth S.cells i with fs := (nth S.cells i).fs.set f.toNat ⟨true, weak, to⟩ } else
      setC (setC S i { nth S.cells i with fs := (nth S.cells i).fs.set f.toNat ⟨true, weak, to⟩ }) to { nth (setC S i { nth S.cells i with fs := (nth S.cells i).fs.set f.toNat ⟨true, weak, to⟩ }).cells to with n := (nth (setC S i { nth S.cells i with fs := (nth S.cells i).fs.set f.toNat ⟨true, weak, to⟩ }).cells to).n + 1 })
      (qset Q i { nth Q.cells i with fs := (nth Q.cells i).fs.set f.toNat ⟨true, weak, to⟩ }) ∧ phi (qset Q i { nth Q.cells i with fs := (nth Q.cells i).fs.set f.toNat ⟨true, weak, to⟩ }) = phi Q := by
  obtain ⟨y, hy⟩ : ∃ y : Fld, y = ⟨true, weak, to⟩ := ⟨_, rfl⟩
  have hyi : y.is = true := by rw [hy]
  have hyw : y.weak = weak := by rw [hy]
  have hyt : y.to = to := by rw [hy]
  rw [← hy]
  have hc := h.sim.cell h0 h1
  have hS1 : i < S.cells.length := by rw [h.sim.len]; exact h1
  obtain ⟨S1, hSS⟩ : ∃ S1, setC S i { nth S.cells i with fs := (nth S.cells i).fs.set f.toNat y } = S1 := ⟨_, rfl⟩
  obtain ⟨Q1, hQ1⟩ : ∃ Q1, qset Q i { nth Q.cells i with fs := (nth Q.cells i).fs.set f.toNat y } = Q1 := ⟨_, rfl⟩
  have hl1 : Q1.cells.length = Q.cells.length := by rw [← hQ1]; simp
  have hlS : S1.cells.length = S.cells.length := by rw [← hSS]; simp
  have refsE : ∀ a : Int, (refs Q1.cells a : Int) = refs Q.cells a + one_ (strongTo a y) := by
    intro a
    have := sim_setFs h.sim h.good h0 h1 f0 f1 y a
    have hzz : strongTo a (nth (nth Q.cells i).fs f) = false := by simp [strongTo, hz]
    rw [hQ1, hzz] at this
    simpa [one_] using this
  have cellQ1 : ∀ a : Int, 0 ≤ a → nth Q1.cells a = if i = a then { nth Q.cells i with fs := (nth Q.cells i).fs.set f.toNat y } else nth Q.cells a := fun a ha => by rw [← hQ1]; exact qset_nth h0 h1 ha
  have cellS1 : ∀ a : Int, 0 ≤ a → nth S1.cells a = if i = a then { nth S.cells i with fs := (nth S.cells i).fs.set f.toNat y } else nth S.cells a := fun a ha => by rw [← hSS]; exact setC_nth h0 hS1 ha
  have strong : ∀ a, one_ (strongTo a y) = if weak = false ∧ to = a then 1 else 0 := by
    intro a
    rw [hy]
    cases weak <;> simp [strongTo, one_]
  have g1 : Sane A Q1 := by
    rw [← hQ1]
    refine h.good.setFs h0 h1 (by simpa using h.good.shp.fl _ (nth_mem h0 h1)) (fun z hz => ?_) (fun a a0 a1 he => ?_)
    · rcases List.mem_or_eq_of_mem_set hz with hz | rfl
      · exact h.good.to _ (nth_mem h0 h1) z hz
      · intro _; rw [hyt]; exact ⟨t0, t1⟩
    · have e1 := refsE a
      have e2 := (h.good.en a a0 a1 he).2
      rw [strong, if_neg] at e1
      · rw [hQ1]; omega
      · rintro ⟨_, rfl⟩; rw [te] at he; cases he
  have ph1 : phi Q1 = phi Q := by
    have := phi_set h0 h1 { nth Q.cells i with fs := (nth Q.cells i).fs.set f.toNat y }
    rw [hQ1] at this
    simp only [life] at this
    omega
  have hrS : S1.roots = S.roots := by rw [← hSS]; rfl
  have hnS : S1.notes = Q1.notes := by rw [← hSS, ← hQ1]; exact h.sim.notes
  have base : ∀ a : Int, 0 ≤ a → a < Q.cells.length → nth S1.cells a = { nth Q1.cells a with n := (nth Q1.cells a).n + refs Q.cells a } ∧ rget S1.roots a = (nth Q1.cells a).n := by
    intro a a0 a1
    obtain ⟨b1, b2⟩ := h.sim.at_ a a0 a1
    have hn : (nth Q1.cells a).n = (nth Q.cells a).n := by
      rw [cellQ1 a a0]; split
      · rename_i e; subst e; rfl
      · rfl
    refine ⟨?_, by rw [hrS, b2, hn]⟩
    rw [cellS1 a a0, cellQ1 a a0]
    by_cases e : i = a
    · subst e
      rw [if_pos rfl, if_pos rfl, b1]
    · rw [if_neg e, if_neg e, b1]
  rw [hSS, hQ1]
  refine ⟨?_, ph1⟩
  cases weak with
  | true =>
    rw [if_pos rfl]
    refine ⟨⟨by rw [hlS, hl1, h.sim.len], hnS, fun a a0 a1 => ?_⟩, g1, h.ro.of hrS hlS⟩
    rw [hl1] at a1
    obtain ⟨b1, b2⟩ := base a a0 a1
    have := refsE a
    rw [strong, if_neg (by simp)] at this
    exact ⟨by rw [b1, this]; simp, b2⟩
  | false =>
    rw [if_neg (by simp)]
    have tS : to < S1.cells.length := by rw [hlS, h.sim.len]; exact t1
    refine ⟨⟨by rw [← hl1] at t1; simp [hlS, hl1, h.sim.len], hnS, fun a a0 a1 => ?_⟩, g1, h.ro.of hrS (by simp [hlS])⟩
    rw [hl1] at a1
    obtain ⟨b1, b2⟩ := base a a0 a1
    have e1 := refsE a
    rw [strong] at e1
    refine ⟨?_, b2⟩
    rw [setC_nth t0 tS a0]
    by_cases e : to = a
    · subst e
      rw [if_pos (by simp)] at e1
      rw [if_pos rfl, b1, e1]
      simp only [Cel.mk.injEq, true_and]
      omega
    · rw [if_neg (by simp [e])] at e1
      rw [if_neg e, b1, e1]; simp

theorem both_set {A : Int} {S : Hp} {Q : Rp} (h : Both A S Q) (i f to : Int) (weak : Bool) :
    (setR S i f to weak).2 = (setQ Q i f to weak).2 ∧ Both A (setR S i f to weak).1 (setQ Q i f to weak).1 ∧ phi (setQ Q i f to weak).1 ≤ phi Q + 12 := by
  unfold setR setQ
  rw [h.sim.hasField, h.sim.has]
  by_cases c1 : hasFieldR Q.hp i f ≠ 0
  · rw [if_pos c1, if_pos c1]; exact ⟨rfl, h, by show phi Q ≤ _; omega⟩
  · rw [if_neg c1, if_neg c1]
    by_cases c2 : hasR Q.hp to true ≠ 0
    · rw [if_pos c2, if_pos c2]; exact ⟨rfl, h, by show phi Q ≤ _; omega⟩
    · rw [if_neg c2, if_neg c2]
      obtain ⟨q1, q2, q3, q4, q5⟩ := hasFieldR_in (Decidable.not_not.1 c1)
      obtain ⟨t1, t2, t3⟩ := hasR_in (Decidable.not_not.1 c2)
      simp only [Rp.hp_cells] at q2 q3 q5 t2 t3
      obtain ⟨g, gp⟩ := both_empty h q1 q2 q4 q5
      obtain ⟨l1, l2⟩ := emptyQ_lens (S := Q) (a := i) (f := f) q1 q2
      have hz : (nth (nth (emptyQ Q i f).cells i).fs f).is = false := by
        rw [emptyQ_nth q1 q2 q1, if_pos rfl]
        simp only
        rw [nth_set q4 q5 q4, if_pos rfl]
      have te : (nth (emptyQ Q i f).cells to).e = false := by
        rw [emptyQ_nth q1 q2 t1]
        split
        · rename_i e; subst e; exact q3
        · exact t3 trivial
      obtain ⟨b, bp⟩ := both_put g q1 (by rw [l1]; exact q2) q4 (by rw [l2]; exact q5) hz t1 (by rw [l1]; exact t2) te weak
      refine ⟨rfl, b, ?_⟩
      show phi (qset _ _ _) ≤ _
      rw [bp]; omega

theorem both_clear {A : Int} {S : Hp} {Q : Rp} (h : Both A S Q) (i f : Int) :
    (if hasFieldR S i f ≠ 0 then (S, hasFieldR S i f) else (emptyR S i f, 0)).2 = (clearQ Q i f).2 ∧ Both A (if hasFieldR S i f ≠ 0 then (S, hasFieldR S i f) else (emptyR S i f, 0)).1 (clearQ Q i f).1 ∧ phi (clearQ Q i f).1 ≤ phi Q + 12 := by
  unfold clearQ
  rw [h.sim.hasField]
  by_cases c1 : hasFieldR Q.hp i f ≠ 0
  · rw [if_pos c1, if_pos c1]; exact ⟨rfl, h, by show phi Q ≤ _; omega⟩
  · rw [if_neg c1, if_neg c1]
    obtain ⟨q1, q2, q3, q4, q5⟩ := hasFieldR_in (Decidable.not_not.1 c1)
    simp only [Rp.hp_cells] at q2 q3 q5
    obtain ⟨g, gp⟩ := both_empty h q1 q2 q4 q5
    exact ⟨rfl, g, by show phi (emptyQ Q i f) ≤ _; omega⟩

theorem RootsOk.set {S : Hp} (h : RootsOk S) {i v : Int} (h0 : 0 ≤ i) (h1 : i < S.cells.length) (hv : 0 < v) : Keys (rset S.roots i v) ∧ ∀ e ∈ rset S.roots i v, 0 ≤ e.1 ∧ e.1 < S.cells.length ∧ 0 < e.2 := by
  refine ⟨h.keys.rset i v, fun e he => ?_⟩
  rcases mem_rset_e e he with rfl | he
  · exact ⟨h0, h1, hv⟩
  · exact h.in_ e he

theorem both_root {A : Int} {S : Hp} {Q : Rp} (h : Both A S Q) (i : Int) :
    (if hasR S i true ≠ 0 then (S, hasR S i true) else (rootR S i, 0)).2 = (rootQ Q i).2 ∧ Both (A + 1) (if hasR S i true ≠ 0 then (S, hasR S i true) else (rootR S i, 0)).1 (rootQ Q i).1 ∧ phi (rootQ Q i).1 ≤ phi Q + 12 := by
  unfold rootQ
  rw [h.sim.has]
  by_cases c1 : hasR Q.hp i true ≠ 0
  · rw [if_pos c1, if_pos c1]; exact ⟨rfl, h.mono (by omega), by show phi Q ≤ _; omega⟩
  · rw [if_neg c1, if_neg c1]
    obtain ⟨q1, q2, q3⟩ := hasR_in (Decidable.not_not.1 c1)
    simp only [Rp.hp_cells] at q2 q3
    obtain ⟨b1, b2⟩ := h.sim.at_ i q1 q2
    have qS : i < S.cells.length := by rw [h.sim.len]; exact q2
    have gn := h.good.n _ (nth_mem q1 q2)
    obtain ⟨k1, k2⟩ := h.ro.set q1 qS (v := rget S.roots i + 1) (by rw [b2]; omega)
    have := both_cell (h.mono (B := A + 1) (by omega)) q1 q2 (c := { nth Q.cells i with n := (nth Q.cells i).n + 1 }) rfl (by simp only [age] at gn ⊢; omega) (fun he => by have hee : (nth Q.cells i).e = true := he; rw [q3 trivial] at hee; cases hee)
      (rs := rset S.roots i (rget S.roots i + 1)) (fun j => by rw [rget_rset, b2]) k1 k2
    refine ⟨rfl, ?_, ?_⟩
    · show Both (A + 1) (rootR S i) (qset Q i _)
      have e : rootR S i = { S with cells := S.cells.set i.toNat { { nth Q.cells i with n := (nth Q.cells i).n + 1 } with n := (nth Q.cells i).n + 1 + refs Q.cells i }, roots := rset S.roots i (rget S.roots i + 1) } := by
        unfold rootR setC
        rw [b1]
        simp only [Hp.mk.injEq, and_true]
        congr 2
        omega
      rw [e]; exact this
    · have := phi_cell q1 q2 (c := { nth Q.cells i with n := (nth Q.cells i).n + 1 }) (Nat.le_refl _)
      show phi (qset Q i _) ≤ _
      omega

theorem both_note {A : Int} {S : Hp} {Q : Rp} (h : Both A S Q) {a : Int} (h0 : 0 ≤ a) (h1 : a < Q.cells.length) : Both A { S with notes := S.notes ++ [a] } { Q with notes := Q.notes ++ [a] } :=
  ⟨⟨h.sim.len, by simp [h.sim.notes], h.sim.at_⟩, ⟨h.good.shp, h.good.to, fun x hx => by
    rcases List.mem_append.1 hx with hx | hx
    · exact h.good.notes x hx
    · rw [List.mem_singleton] at hx; subst hx; exact ⟨h0, h1⟩, h.good.n, h.good.en⟩, ⟨h.ro.keys, h.ro.in_⟩⟩
theorem both_take {A : Int} {S : Hp} {Q : Rp} (h : Both A S Q) {a : Int} {r : List Int} (hn : Q.notes = a :: r) : Both A { S with notes := r } { Q with notes := r } ∧ phi Q = phi { Q with notes := r } + 1 :=
  ⟨⟨⟨h.sim.len, rfl, h.sim.at_⟩, ⟨h.good.shp, h.good.to, fun x hx => h.good.notes x (by rw [hn]; exact List.mem_cons.2 (.inr hx)), h.good.n, h.good.en⟩, ⟨h.ro.keys, h.ro.in_⟩⟩, by unfold phi; rw [hn]; simp; omega⟩

/-- A root less. -/
theorem both_unroot {A : Int} {S : Hp} {Q : Rp} (h : Both A S Q) {i : Int} (h0 : 0 ≤ i) (h1 : i < Q.cells.length) (hn : (nth Q.cells i).n ≠ 0) :
    Both A (unrootR S i) (noteQ (qset Q i { nth Q.cells i with n := (nth Q.cells i).n - 1 }) i) ∧ phi (noteQ (qset Q i { nth Q.cells i with n := (nth Q.cells i).n - 1 }) i) ≤ phi Q + 1 := by
  obtain ⟨b1, b2⟩ := h.sim.at_ i h0 h1
  have hS : i < S.cells.length := by rw [h.sim.len]; exact h1
  have gn := h.good.n _ (nth_mem h0 h1)
  obtain ⟨c, hc⟩ : ∃ c : Cel, c = { nth Q.cells i with n := (nth Q.cells i).n - 1 } := ⟨_, rfl⟩
  have hcn : c.n = (nth Q.cells i).n - 1 := by rw [hc]
  have hce : c.e = (nth Q.cells i).e := by rw [hc]
  have hca : age c = age (nth Q.cells i) := by rw [hc]; rfl
  obtain ⟨rs, hrs⟩ : ∃ rs, rs = if rget (rset S.roots i (rget S.roots i - 1)) i = 0 then rdel (rset S.roots i (rget S.roots i - 1)) i else rset S.roots i (rget S.roots i - 1) := ⟨_, rfl⟩
  have hcond : rget (rset S.roots i (rget S.roots i - 1)) i = (nth Q.cells i).n - 1 := by rw [rget_rset, if_pos rfl, b2]
  have hr : ∀ j, rget rs j = if j = i then c.n else rget S.roots j := by
    intro j
    rw [hrs, hcond]
    by_cases hz : (nth Q.cells i).n - 1 = 0
    · rw [if_pos hz, rget_rdel (h.ro.keys.rset _ _), rget_rset]
      by_cases e : j = i
      · rw [if_pos e, if_pos e, hcn, hz]
      · rw [if_neg e, if_neg e, if_neg e]
    · rw [if_neg hz, rget_rset, b2, hcn]
  have hk : Keys rs := by
    rw [hrs]; split
    · exact (h.ro.keys.rset _ _).rdel _
    · exact h.ro.keys.rset _ _
  have hin : ∀ e ∈ rs, 0 ≤ e.1 ∧ e.1 < S.cells.length ∧ 0 < e.2 := by
    intro e he
    rw [hrs, hcond] at he
    by_cases hz : (nth Q.cells i).n - 1 = 0
    · rw [if_pos hz] at he
      have hne := mem_rdel_set h.ro.keys e he
      rcases mem_rset_e e (mem_rdel_e e he) with rfl | he
      · exact absurd rfl hne
      · exact h.ro.in_ e he
    · rw [if_neg hz] at he
      rcases mem_rset_e e he with rfl | he
      · exact ⟨h0, hS, by simp only; omega⟩
      · exact h.ro.in_ e he
  have hB := both_cell h h0 h1 (c := c) (by rw [hc]) (by rw [hcn, hca]; omega) (fun he => by have := (h.good.en i h0 h1 (by rw [← hce]; exact he)); exact absurd this.1 hn) hr hk hin
  obtain ⟨Q1, hQ1⟩ : ∃ Q1, qset Q i c = Q1 := ⟨_, rfl⟩
  have ph1 : phi Q1 ≤ phi Q := by rw [← hQ1]; exact phi_cell h0 h1 (by rw [hc]; exact Nat.le_refl _)
  rw [← hc, hQ1]
  rw [hQ1] at hB
  have q1 : i < Q1.cells.length := by rw [← hQ1, qset_len]; exact h1
  have hct := hB.good.counted h0 q1
  have hcell := hB.sim.cell h0 q1
  have hsn : (nth S.cells i).n - 1 = countedR Q1 i := by
    rw [hct, b1]
    have e1 : nth Q1.cells i = c := by rw [← hQ1, qset_nth h0 h1 h0, if_pos rfl]
    have e2 : refs Q1.cells i = refs Q.cells i := by rw [← hQ1]; exact refs_same h0 h1 (by rw [hc]) i
    rw [e1, e2, hcn]
    simp only; omega
  have hU : unrootR S i = lessR { S with roots := rs } i := by
    unfold unrootR
    simp only
    rw [hrs]
    split <;> rfl
  have hset : setC { S with roots := rs } i { nth S.cells i with n := (nth S.cells i).n - 1 } = { S with cells := S.cells.set i.toNat { c with n := c.n + refs Q.cells i }, roots := rs } := by
    unfold setC
    rw [b1, hcn, hc]
    simp only [Hp.mk.injEq, and_true]
    congr 2
    omega
  rw [hU]
  unfold lessR noteQ
  simp only [hset]
  rw [hsn]
  by_cases hz : countedR Q1 i = 0
  · rw [if_pos hz, if_pos hz]
    refine ⟨both_note hB h0 q1, ?_⟩
    simp only [phi, List.length_append, List.length_singleton] at ph1 ⊢
    omega
  · rw [if_neg hz, if_neg hz]
    exact ⟨hB, by omega⟩

theorem both_drop {A : Int} {S : Hp} {Q : Rp} (h : Both A S Q) (i : Int) :
    (dropR S i).2 = (dropQ Q i).2 ∧ Both A (dropR S i).1 (dropQ Q i).1 ∧ phi (dropQ Q i).1 ≤ phi Q + 12 := by
  unfold dropR dropQ
  rw [h.sim.has]
  by_cases c1 : hasR Q.hp i true ≠ 0
  · rw [if_pos c1, if_pos c1]; exact ⟨rfl, h, by show phi Q ≤ _; omega⟩
  · rw [if_neg c1, if_neg c1]
    obtain ⟨q1, q2, q3⟩ := hasR_in (Decidable.not_not.1 c1)
    simp only [Rp.hp_cells] at q2 q3
    rw [(h.sim.at_ i q1 q2).2]
    by_cases c2 : (nth Q.cells i).n = 0
    · rw [if_pos c2, if_pos c2]; exact ⟨rfl, h, by show phi Q ≤ _; omega⟩
    · rw [if_neg c2, if_neg c2]
      obtain ⟨g, gp⟩ := both_unroot h q1 q2 c2
      exact ⟨rfl, g, by show phi (noteQ _ _) ≤ _; omega⟩
end Go.Am
