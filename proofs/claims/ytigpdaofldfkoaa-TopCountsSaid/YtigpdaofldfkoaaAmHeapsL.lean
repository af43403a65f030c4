/- The plain law of the heap: what the program's heap does, the reference's heap does. -/
import Derived.Test.YtigpdaofldfkoaaAmRefF
set_option linter.unusedVariables false
set_option linter.unusedSimpArgs false
namespace Go.Am
/-! ### Sums over cells -/
def wsum (w : Cel → Nat) (cs : List Cel) : Nat := (cs.map w).sum
theorem wsum_set (w : Cel → Nat) {cs : List Cel} {i : Int} (h0 : 0 ≤ i) (h1 : i < cs.length) (c : Cel) : wsum w (cs.set i.toNat c) + w (nth cs i) = wsum w cs + w c := by
  have hi : i.toNat < cs.length := by omega
  have hn : nth cs i = cs[i.toNat] := by simp [nth, List.getElem?_eq_getElem hi]
  rw [List.set_eq_take_append_cons_drop, if_pos hi]
  have e : cs = cs.take i.toNat ++ cs[i.toNat] :: cs.drop (i.toNat + 1) := by rw [← List.drop_eq_getElem_cons hi, List.take_append_drop]
  have e2 : wsum w cs = wsum w (cs.take i.toNat ++ cs[i.toNat] :: cs.drop (i.toNat + 1)) := by rw [← e]
  rw [e2, hn]
  simp only [wsum, List.map_append, List.map_cons, List.sum_append, List.sum_cons]
  omega
theorem refs_set {cs : List Cel} {i : Int} (h0 : 0 ≤ i) (h1 : i < cs.length) (c : Cel) (a : Int) : refs (cs.set i.toNat c) a + cnt (nth cs i).fs a = refs cs a + cnt c.fs a := wsum_set _ h0 h1 c
def one_ (b : Bool) : Nat := if b then 1 else 0
theorem cnt_set {fs : List Fld} {f : Int} (h0 : 0 ≤ f) (h1 : f < fs.length) (y : Fld) (a : Int) : cnt (fs.set f.toNat y) a + one_ (strongTo a (nth fs f)) = cnt fs a + one_ (strongTo a y) := by
  have hi : f.toNat < fs.length := by omega
  have hn : nth fs f = fs[f.toNat] := by simp [nth, List.getElem?_eq_getElem hi]
  rw [List.set_eq_take_append_cons_drop, if_pos hi]
  have e : fs = fs.take f.toNat ++ fs[f.toNat] :: fs.drop (f.toNat + 1) := by rw [← List.drop_eq_getElem_cons hi, List.take_append_drop]
  have e2 : cnt fs a = cnt (fs.take f.toNat ++ fs[f.toNat] :: fs.drop (f.toNat + 1)) a := by rw [← e]
  rw [e2, hn]
  simp only [cnt, List.countP_append, List.countP_cons, one_]
  omega
theorem mem_nth {α : Type} [Inhabited α] {l : List α} {x : α} (h : x ∈ l) : ∃ i : Nat, i < l.length ∧ nth l (i : Int) = x := by
  obtain ⟨i, hi, e⟩ := List.getElem_of_mem h
  exact ⟨i, hi, by simp [nth, List.getElem?_eq_getElem hi, e]⟩
/-! ### What always holds of the reference's heap -/
def age (c : Cel) : Int := if c.t = true then 0 else 1
structure Sane (A : Int) (Q : Rp) : Prop where
  shp : Shp Q.cells
  to : ∀ c ∈ Q.cells, ∀ x ∈ c.fs, x.is = true → 0 ≤ x.to ∧ x.to < Q.cells.length
  notes : ∀ a ∈ Q.notes, 0 ≤ a ∧ a < Q.cells.length
  n : ∀ c ∈ Q.cells, 0 ≤ c.n ∧ c.n + age c ≤ A
  en : ∀ i : Int, 0 ≤ i → i < Q.cells.length → (nth Q.cells i).e = true → (nth Q.cells i).n = 0 ∧ refs Q.cells i = 0
def life (c : Cel) : Nat := (if c.e then 0 else 9) + (if c.t then 0 else 2)
def phi (Q : Rp) : Nat := Q.notes.length + wsum life Q.cells
/-- How the program's heap stands to the reference's. -/
structure Sim (S : Hp) (Q : Rp) : Prop where
  len : S.cells.length = Q.cells.length
  notes : S.notes = Q.notes
  at_ : ∀ i : Int, 0 ≤ i → i < Q.cells.length → nth S.cells i = { nth Q.cells i with n := (nth Q.cells i).n + refs Q.cells i } ∧ rget S.roots i = (nth Q.cells i).n
theorem Sim.cell {S : Hp} {Q : Rp} (h : Sim S Q) {i : Int} (h0 : 0 ≤ i) (h1 : i < Q.cells.length) : (nth S.cells i).fs = (nth Q.cells i).fs ∧ (nth S.cells i).w = (nth Q.cells i).w ∧ (nth S.cells i).t = (nth Q.cells i).t ∧ (nth S.cells i).e = (nth Q.cells i).e ∧ (nth S.cells i).n = (nth Q.cells i).n + refs Q.cells i := by
  rw [(h.at_ i h0 h1).1]; exact ⟨rfl, rfl, rfl, rfl, rfl⟩
theorem Sane.counted {A : Int} {Q : Rp} (g : Sane A Q) {i : Int} (h0 : 0 ≤ i) (h1 : i < Q.cells.length) : countedR Q i = (nth Q.cells i).n + refs Q.cells i := by
  unfold countedR
  split
  · rename_i he
    obtain ⟨e1, e2⟩ := g.en i h0 h1 he
    rw [e1, e2]; rfl
  · rfl
/-- Two heaps' cells of which the same can be seen. -/
structure Look (S S' : Hp) : Prop where
  len : S.cells.length = S'.cells.length
  at_ : ∀ i : Int, 0 ≤ i → i < S'.cells.length → (nth S.cells i).fs = (nth S'.cells i).fs ∧ (nth S.cells i).t = (nth S'.cells i).t ∧ (nth S.cells i).e = (nth S'.cells i).e
theorem Look.has {S S' : Hp} (h : Look S S') (i : Int) (live : Bool) : hasR S i live = hasR S' i live := by
  unfold hasR
  rw [h.len]
  by_cases hc : i < 0 ∨ (S'.cells.length : Int) ≤ i
  · rw [if_pos hc, if_pos hc]
  · rw [if_neg hc, if_neg hc, (h.at_ i (by omega) (by omega)).2.2]
theorem Look.hasField {S S' : Hp} (h : Look S S') (i f : Int) : hasFieldR S i f = hasFieldR S' i f := by
  unfold hasFieldR
  rw [h.has]
  by_cases hz : hasR S' i true ≠ 0
  · rw [if_pos hz, if_pos hz]
  · obtain ⟨q1, q2, _⟩ := hasR_in (Decidable.not_not.1 hz)
    rw [if_neg hz, if_neg hz, (h.at_ i q1 q2).1]
theorem Look.get {S S' : Hp} (h : Look S S') (i f : Int) : getR S i f = getR S' i f := by
  unfold getR
  rw [h.hasField]
  by_cases hz : hasFieldR S' i f ≠ 0
  · rw [if_pos hz, if_pos hz]
  · obtain ⟨q1, q2, _⟩ := hasFieldR_in (Decidable.not_not.1 hz)
    rw [if_neg hz, if_neg hz, (h.at_ i q1 q2).1]
theorem Look.state {S S' : Hp} (h : Look S S') (i : Int) : stateR S i = stateR S' i := by
  unfold stateR
  rw [h.has]
  by_cases hz : hasR S' i false ≠ 0
  · rw [if_pos hz, if_pos hz]
  · obtain ⟨q1, q2, _⟩ := hasR_in (Decidable.not_not.1 hz)
    obtain ⟨_, e3, e4⟩ := h.at_ i q1 q2
    rw [if_neg hz, if_neg hz, e3, e4]
theorem Sim.look {S : Hp} {Q : Rp} (h : Sim S Q) : Look S Q.hp := ⟨h.len, fun i i0 i1 => by obtain ⟨e1, _, e3, e4, _⟩ := h.cell i0 i1; exact ⟨e1, e3, e4⟩⟩
theorem Sim.has {S : Hp} {Q : Rp} (h : Sim S Q) (i : Int) (live : Bool) : hasR S i live = hasR Q.hp i live := h.look.has i live
theorem Sim.hasField {S : Hp} {Q : Rp} (h : Sim S Q) (i f : Int) : hasFieldR S i f = hasFieldR Q.hp i f := h.look.hasField i f
theorem Sim.get {S : Hp} {Q : Rp} (h : Sim S Q) (i f : Int) : getR S i f = getR Q.hp i f := h.look.get i f
theorem Sim.state {S : Hp} {Q : Rp} (h : Sim S Q) (i : Int) : stateR S i = stateR Q.hp i := h.look.state i
theorem Sim.count {A : Int} {S : Hp} {Q : Rp} (h : Sim S Q) (g : Sane A Q) (i : Int) : countR S i = countQ Q i := by
  unfold countR countQ
  rw [h.has]
  by_cases hz : hasR Q.hp i false ≠ 0
  · rw [if_pos hz, if_pos hz]
  · obtain ⟨q1, q2, _⟩ := hasR_in (Decidable.not_not.1 hz)
    simp only [Rp.hp_cells] at q2
    rw [if_neg hz, if_neg hz, (h.cell q1 q2).2.2.2.2, g.counted q1 q2]
/-! ### Bounds -/
theorem Sane.qbnd {A : Int} {Q : Rp} (g : Sane A Q) (hA : A ≤ 2 ^ 40) (hp : phi Q < 2 ^ 38) : QBnd Q :=
  ⟨g.shp, fun c hc => by have := g.n c hc; unfold age at this; split at this <;> omega, by unfold phi at hp; omega⟩
theorem Sane.refs_lt {A : Int} {Q : Rp} (g : Sane A Q) (i : Int) : refs Q.cells i ≤ 800 := by have := refs_le (i := i) g.shp.fl; have := g.shp.len; omega
theorem Sim.bnd {A : Int} {S : Hp} {Q : Rp} (h : Sim S Q) (g : Sane A Q) (hA : A ≤ 2 ^ 40) (hp : phi Q < 2 ^ 38) : Bnd S := by
  refine ⟨fun c hc => ?_, by rw [h.notes]; unfold phi at hp; omega⟩
  obtain ⟨i, hi, e⟩ := mem_nth hc
  rw [h.len] at hi
  have e1 := (h.cell (i := (i : Int)) (by omega) (by omega)).2.2.2.2
  have e2 := g.n _ (nth_mem (l := Q.cells) (i := (i : Int)) (by omega) (by omega))
  have e3 := g.refs_lt (i : Int)
  rw [e] at e1
  have : 0 ≤ age (nth Q.cells (i : Int)) := by unfold age; split <;> omega
  omega
theorem Sane.toIn {A : Int} {Q : Rp} (g : Sane A Q) {i f : Int} (h0 : 0 ≤ i) (h1 : i < Q.cells.length) (f0 : 0 ≤ f) (f1 : f < (nth Q.cells i).fs.length) : QTo Q i f :=
  fun h _ => g.to _ (nth_mem h0 h1) _ (nth_mem f0 f1) h
/-! ### A field is made empty -/
theorem zero_strong (a : Int) : strongTo a ⟨false, false, 0⟩ = false := rfl
/-- A cell's fields are others: what is known then. -/
theorem sim_setFs {A : Int} {S : Hp} {Q : Rp} (h : Sim S Q) (g : Sane A Q) {i f : Int} (h0 : 0 ≤ i) (h1 : i < Q.cells.length) (f0 : 0 ≤ f) (f1 : f < (nth Q.cells i).fs.length) (y : Fld) (a : Int) :
    (refs (qset Q i { nth Q.cells i with fs := (nth Q.cells i).fs.set f.toNat y }).cells a : Int) + one_ (strongTo a (nth (nth Q.cells i).fs f)) = refs Q.cells a + one_ (strongTo a y) := by
  have e1 := refs_set h0 h1 { nth Q.cells i with fs := (nth Q.cells i).fs.set f.toNat y } a
  have e2 := cnt_set f0 f1 y a
  simp only [qset] at e1 ⊢
  omega
theorem phi_set {Q : Rp} {i : Int} (h0 : 0 ≤ i) (h1 : i < Q.cells.length) (c : Cel) : phi (qset Q i c) + life (nth Q.cells i) = phi Q + life c := by
  have := wsum_set life h0 h1 c
  unfold phi
  simp only [qset]
  omega
theorem strong_eq {a : Int} {x : Fld} : strongTo a x = true ↔ x.is = true ∧ x.weak = false ∧ x.to = a := by
  simp [strongTo, and_assoc]
theorem Sane.setFs {A : Int} {Q : Rp} (g : Sane A Q) {i : Int} (h0 : 0 ≤ i) (h1 : i < Q.cells.length) {fs : List Fld} (hl : fs.length ≤ 8) (hto : ∀ x ∈ fs, x.is = true → 0 ≤ x.to ∧ x.to < Q.cells.length)
    (hr : ∀ a : Int, 0 ≤ a → a < Q.cells.length → (nth Q.cells a).e = true → refs (qset Q i { nth Q.cells i with fs := fs }).cells a = 0) : Sane A (qset Q i { nth Q.cells i with fs := fs }) := by
  refine ⟨g.shp.set hl, ?_, by rw [qset_len]; exact g.notes, ?_, ?_⟩
  · rw [qset_len]; exact mem_set_of g.to hto
  · exact mem_set_of g.n (g.n (nth Q.cells i) (nth_mem h0 h1))
  · intro a a0 a1 he
    rw [qset_len] at a1
    rw [qset_nth h0 h1 a0] at he ⊢
    have he' : (nth Q.cells a).e = true := by
      split at he
      · rename_i e; subst e; exact he
      · exact he
    refine ⟨?_, hr a a0 a1 he'⟩
    have := (g.en a a0 a1 he').1
    split
    · rename_i e; subst e; exact this
    · exact this
theorem sim_empty {A : Int} {S : Hp} {Q : Rp} (h : Sim S Q) (g : Sane A Q) {i f : Int} (h0 : 0 ≤ i) (h1 : i < Q.cells.length) (f0 : 0 ≤ f) (f1 : f < (nth Q.cells i).fs.length) :
    Sim (emptyR S i f) (emptyQ Q i f) ∧ Sane A (emptyQ Q i f) ∧ phi (emptyQ Q i f) ≤ phi Q + 1 := by
  obtain ⟨x, hx⟩ : ∃ x, nth (nth Q.cells i).fs f = x := ⟨_, rfl⟩
  have hc := h.cell h0 h1
  have hS1 : i < S.cells.length := by rw [h.len]; exact h1
  have hxS : nth (nth S.cells i).fs f = x := by rw [hc.1]; exact hx
  have hto := g.to _ (nth_mem h0 h1) _ (nth_mem f0 f1)
  rw [hx] at hto
  obtain ⟨Q1, hQ1⟩ : ∃ Q1, qset Q i { nth Q.cells i with fs := (nth Q.cells i).fs.set f.toNat ⟨false, false, 0⟩ } = Q1 := ⟨_, rfl⟩
  have hl1 : Q1.cells.length = Q.cells.length := by rw [← hQ1]; simp
  have refsE : ∀ a : Int, (refs Q1.cells a : Int) + one_ (strongTo a x) = refs Q.cells a := by
    intro a
    have := sim_setFs h g h0 h1 f0 f1 ⟨false, false, 0⟩ a
    rw [hQ1, hx, zero_strong] at this
    simpa [one_] using this
  have cellQ1 : ∀ a : Int, 0 ≤ a → nth Q1.cells a = if i = a then { nth Q.cells i with fs := (nth Q.cells i).fs.set f.toNat ⟨false, false, 0⟩ } else nth Q.cells a := fun a ha => by rw [← hQ1]; exact qset_nth h0 h1 ha
  have g1 : Sane A Q1 := by
    rw [← hQ1]
    refine g.setFs h0 h1 (by simpa using g.shp.fl _ (nth_mem h0 h1)) (fun y hy => ?_) (fun a a0 a1 he => ?_)
    · rcases List.mem_or_eq_of_mem_set hy with hy | rfl
      · exact g.to _ (nth_mem h0 h1) y hy
      · intro e; cases e
    · have e1 := refsE a
      have e2 := (g.en a a0 a1 he).2
      rw [hQ1]
      omega
  have ph1 : phi Q1 = phi Q := by
    have := phi_set h0 h1 { nth Q.cells i with fs := (nth Q.cells i).fs.set f.toNat ⟨false, false, 0⟩ }
    rw [hQ1] at this
    simp only [life] at this
    omega
  have hQ : emptyQ Q i f = if x.is = true ∧ x.weak = false then noteQ Q1 x.to else Q1 := by unfold emptyQ; simp only [hx, hQ1]
  obtain ⟨S1, hSS⟩ : ∃ S1, setC S i { nth S.cells i with fs := (nth S.cells i).fs.set f.toNat ⟨false, false, 0⟩ } = S1 := ⟨_, rfl⟩
  have hS : emptyR S i f = if x.is = true ∧ x.weak = false then lessR S1 x.to else S1 := by unfold emptyR; simp only [hxS, hSS]
  have cellS1 : ∀ a : Int, 0 ≤ a → nth S1.cells a = if i = a then { nth S.cells i with fs := (nth S.cells i).fs.set f.toNat ⟨false, false, 0⟩ } else nth S.cells a := fun a ha => by rw [← hSS]; exact setC_nth h0 hS1 ha
  have hlS : S1.cells.length = S.cells.length := by rw [← hSS]; simp
  have hrS : S1.roots = S.roots := by rw [← hSS]; rfl
  have hnS : S1.notes = S.notes := by rw [← hSS]; rfl
  -- the cells of S1 beside those of Q1, but for the counts
  have base : ∀ a : Int, 0 ≤ a → a < Q.cells.length → nth S1.cells a = { nth Q1.cells a with n := (nth Q1.cells a).n + refs Q1.cells a + one_ (strongTo a x) } ∧ rget S1.roots a = (nth Q1.cells a).n := by
    intro a a0 a1
    obtain ⟨b1, b2⟩ := h.at_ a a0 a1
    have hn : (nth Q1.cells a).n = (nth Q.cells a).n := by
      rw [cellQ1 a a0]; split
      · rename_i e; subst e; rfl
      · rfl
    refine ⟨?_, by rw [hrS, b2, hn]⟩
    rw [cellS1 a a0, cellQ1 a a0]
    have e1 := refsE a
    by_cases e : i = a
    · subst e
      rw [if_pos rfl, if_pos rfl, b1]
      simp only [Cel.mk.injEq, true_and]
      omega
    · rw [if_neg e, if_neg e, b1]
      simp only [Cel.mk.injEq, true_and]
      omega
  rw [hQ, hS]
  by_cases hst : x.is = true ∧ x.weak = false
  · rw [if_pos hst, if_pos hst]
    obtain ⟨t0, t1⟩ := hto hst.1
    have hsx : strongTo x.to x = true := strong_eq.2 ⟨hst.1, hst.2, rfl⟩
    have hoth : ∀ a, a ≠ x.to → strongTo a x = false := fun a ha => by
      cases hb : strongTo a x with
      | false => rfl
      | true => exact absurd (strong_eq.1 hb).2.2.symm ha
    have tS : x.to < S1.cells.length := by rw [hlS, h.len]; exact t1
    have tQ : x.to < Q1.cells.length := by rw [hl1]; exact t1
    have hcount := g1.counted t0 tQ
    have bt := base x.to t0 t1
    have hnn : (nth S1.cells x.to).n - 1 = countedR Q1 x.to := by
      rw [hcount, bt.1, hsx]; simp [one_]
    have hcQ : (noteQ Q1 x.to).cells = Q1.cells := by unfold noteQ; split <;> rfl
    refine ⟨⟨?_, ?_, ?_⟩, ?_, ?_⟩
    · rw [lessR_len, hcQ, hlS, h.len, hl1]
    · unfold lessR noteQ
      simp only [hnn]
      by_cases hz : countedR Q1 x.to = 0
      · rw [if_pos hz, if_pos hz]
        show S1.notes ++ [x.to] = Q1.notes ++ [x.to]
        rw [hnS, h.notes, ← hQ1]; rfl
      · rw [if_neg hz, if_neg hz]
        show S1.notes = Q1.notes
        rw [hnS, h.notes, ← hQ1]; rfl
    · intro a a0 a1
      rw [hcQ] at a1 ⊢
      have a1' : a < Q.cells.length := by rw [← hl1]; exact a1
      obtain ⟨b1, b2⟩ := base a a0 a1'
      rw [lessR_nth t0 tS a0]
      have hroots : (lessR S1 x.to).roots = S1.roots := by unfold lessR; simp only; split <;> rfl
      refine ⟨?_, by rw [hroots]; exact b2⟩
      by_cases e : x.to = a
      · subst e
        rw [if_pos rfl, b1, hsx]
        simp only [Cel.mk.injEq, true_and, one_]
        simp
      · rw [if_neg e, b1, hoth a (Ne.symm e)]
        simp [one_]
    · refine ⟨by rw [hcQ]; exact g1.shp, by rw [hcQ]; exact g1.to, ?_, by rw [hcQ]; exact g1.n, by rw [hcQ]; exact g1.en⟩
      rw [hcQ]
      intro a ha
      unfold noteQ at ha
      split at ha
      · simp only [List.mem_append, List.mem_singleton] at ha
        rcases ha with ha | rfl
        · exact g1.notes a ha
        · exact ⟨t0, tQ⟩
      · exact g1.notes a ha
    · rw [← ph1]
      unfold noteQ
      split
      · simp [phi]; omega
      · omega
  · rw [if_neg hst, if_neg hst]
    have hns : ∀ a, strongTo a x = false := fun a => by
      cases hb : strongTo a x with
      | false => rfl
      | true => exact absurd ⟨(strong_eq.1 hb).1, (strong_eq.1 hb).2.1⟩ hst
    refine ⟨⟨by rw [hlS, h.len, hl1], by rw [hnS, h.notes, ← hQ1]; rfl, fun a a0 a1 => ?_⟩, g1, by omega⟩
    have := base a a0 (by rw [← hl1]; exact a1)
    rw [hns a] at this
    simpa [one_] using this
end Go.Am

/- The plain law of the heap: each act. -/
set_option linter.unusedVariables false
set_option linter.unusedSimpArgs false
namespace Go.Am
/-- A cell's number and marks are others; its fields are not. -/
theorem refs_same {cs : List Cel} {i : Int} (h0 : 0 ≤ i) (h1 : i < cs.length) {c : Cel} (hf : c.fs = (nth cs i).fs) (a : Int) : refs (cs.set i.toNat c) a = refs cs a := by
  have := refs_set h0 h1 c a
  rw [hf] at this
  omega
theorem rget_rset (es : List (Int × Int)) (k v : Int) : ∀ j, rget (rset es k v) j = if j = k then v else rget es j := by
  intro j
  induction es with
  | nil => simp [rset, rget]; by_cases h : k = j <;> simp [h, eq_comm]
  | cons e r ih =>
    obtain ⟨a, w⟩ := e
    unfold rset
    by_cases h : a = k
    · subst h
      simp only [if_true, rget]
      by_cases hj : j = a
      · subst hj; simp
      · rw [if_neg (Ne.symm hj), if_neg hj, if_neg (Ne.symm hj)]
    · rw [if_neg h]
      simp only [rget]
      by_cases hj : a = j
      · subst hj; simp [h]
      · rw [if_neg hj, if_neg hj, ih]
def Keys (es : List (Int × Int)) : Prop := (es.map (·.1)).Nodup
theorem rget_not {es : List (Int × Int)} {k : Int} (h : k ∉ es.map (·.1)) : rget es k = 0 := by
  induction es with
  | nil => rfl
  | cons e r ih =>
    obtain ⟨a, w⟩ := e
    simp only [List.map_cons, List.mem_cons, not_or] at h
    unfold rget
    rw [if_neg (Ne.symm h.1)]; exact ih h.2
theorem mem_rset {es : List (Int × Int)} {k v j : Int} : j ∈ (rset es k v).map (·.1) ↔ j = k ∨ j ∈ es.map (·.1) := by
  induction es with
  | nil => simp [rset]
  | cons e r ih =>
    obtain ⟨a, w⟩ := e
    unfold rset
    by_cases h : a = k
    · subst h; simp
    · rw [if_neg h]
      simp only [List.map_cons, List.mem_cons, ih]
      constructor
      · rintro (h | h | h)
        · exact .inr (.inl h)
        · exact .inl h
        · exact .inr (.inr h)
      · rintro (h | h | h)
        · exact .inr (.inl h)
        · exact .inl h
        · exact .inr (.inr h)
theorem Keys.rset {es : List (Int × Int)} (h : Keys es) (k v : Int) : Keys (rset es k v) := by
  induction es with
  | nil => simp [Keys, Go.Am.rset]
  | cons e r ih =>
    obtain ⟨a, w⟩ := e
    obtain ⟨h1, h2⟩ := List.nodup_cons.1 h
    unfold Go.Am.rset
    by_cases hk : a = k
    · subst hk; rw [if_pos rfl]; exact List.nodup_cons.2 ⟨h1, h2⟩
    · rw [if_neg hk]
      refine List.nodup_cons.2 ⟨?_, ih h2⟩
      rw [mem_rset]
      rintro (e | e)
      · exact hk e
      · exact h1 e
theorem mem_rdel {es : List (Int × Int)} {k j : Int} (h : j ∈ (rdel es k).map (·.1)) : j ∈ es.map (·.1) := by
  induction es with
  | nil => simp [rdel] at h
  | cons e r ih =>
    obtain ⟨a, w⟩ := e
    unfold rdel at h
    by_cases hk : a = k
    · rw [if_pos hk] at h; simp only [List.map_cons, List.mem_cons]; exact .inr h
    · rw [if_neg hk] at h
      simp only [List.map_cons, List.mem_cons] at h ⊢
      exact h.imp id ih
theorem Keys.rdel {es : List (Int × Int)} (h : Keys es) (k : Int) : Keys (rdel es k) := by
  induction es with
  | nil => exact h
  | cons e r ih =>
    obtain ⟨a, w⟩ := e
    obtain ⟨h1, h2⟩ := List.nodup_cons.1 h
    unfold Go.Am.rdel
    by_cases hk : a = k
    · rw [if_pos hk]; exact h2
    · rw [if_neg hk]; exact List.nodup_cons.2 ⟨fun hm => h1 (mem_rdel hm), ih h2⟩
theorem rget_rdel {es : List (Int × Int)} (h : Keys es) (k : Int) : ∀ j, rget (rdel es k) j = if j = k then 0 else rget es j := by
  intro j
  induction es with
  | nil => simp [rdel, rget]
  | cons e r ih =>
    obtain ⟨a, w⟩ := e
    obtain ⟨h1, h2⟩ := List.nodup_cons.1 h
    unfold rdel
    by_cases hk : a = k
    · subst hk
      rw [if_pos rfl]
      by_cases hj : j = a
      · subst hj; rw [if_pos rfl]; exact rget_not h1
      · rw [if_neg hj]; simp only [rget]; rw [if_neg (Ne.symm hj)]
    · rw [if_neg hk]
      simp only [rget]
      by_cases hj : a = j
      · subst hj; simp [hk]
      · rw [if_neg hj, if_neg hj, ih h2]
/-- The roots' map: each key once, in range, and never 0. -/
structure RootsOk (S : Hp) : Prop where
  keys : Keys S.roots
  in_ : ∀ e ∈ S.roots, 0 ≤ e.1 ∧ e.1 < S.cells.length ∧ 0 < e.2
/-- Both, and all that always holds. -/
structure Both (A : Int) (S : Hp) (Q : Rp) : Prop where
  sim : Sim S Q
  good : Sane A Q
  ro : RootsOk S
theorem mem_rset_e {es : List (Int × Int)} {k v : Int} : ∀ e ∈ rset es k v, e = (k, v) ∨ e ∈ es := by
  induction es with
  | nil => intro e he; simp [rset] at he; exact .inl he
  | cons d r ih =>
    obtain ⟨a, w⟩ := d
    intro e he
    unfold rset at he
    by_cases h : a = k
    · rw [if_pos h] at he
      rcases List.mem_cons.1 he with he | he
      · exact .inl he
      · exact .inr (List.mem_cons.2 (.inr he))
    · rw [if_neg h] at he
      rcases List.mem_cons.1 he with he | he
      · exact .inr (List.mem_cons.2 (.inl he))
      · exact (ih e he).imp id fun h => List.mem_cons.2 (.inr h)
theorem mem_rdel_e {es : List (Int × Int)} {k : Int} : ∀ e ∈ rdel es k, e ∈ es := by
  induction es with
  | nil => intro e he; simp [rdel] at he
  | cons d r ih =>
    obtain ⟨a, w⟩ := d
    intro e he
    unfold rdel at he
    by_cases h : a = k
    · rw [if_pos h] at he; exact List.mem_cons.2 (.inr he)
    · rw [if_neg h] at he
      rcases List.mem_cons.1 he with he | he
      · exact List.mem_cons.2 (.inl he)
      · exact List.mem_cons.2 (.inr (ih e he))
theorem mem_rdel_set {es : List (Int × Int)} (hk : Keys es) {k v : Int} : ∀ e ∈ rdel (rset es k v) k, e.1 ≠ k := by
  intro e he hc
  have h2 := rget_rdel (hk.rset k v) k
  have h3 : Keys (rdel (rset es k v) k) := (hk.rset k v).rdel k
  have : k ∉ (rdel (rset es k v) k).map (·.1) := by
    clear he hc h2 h3
    induction es with
    | nil => simp [rset, rdel]
    | cons d r ih =>
      obtain ⟨a, w⟩ := d
      obtain ⟨h1, h2⟩ := List.nodup_cons.1 hk
      unfold rset
      by_cases ha : a = k
      · subst ha; rw [if_pos rfl]; unfold rdel; rw [if_pos rfl]; exact h1
      · rw [if_neg ha]; unfold rdel; rw [if_neg ha]
        simp only [List.map_cons, List.mem_cons, not_or]
        exact ⟨Ne.symm ha, ih h2⟩
  exact this (List.mem_map.2 ⟨e, he, hc⟩)
/-- Fields that are emptied leave the roots. -/
theorem lessR_roots {S : Hp} {i : Int} : (lessR S i).roots = S.roots := by unfold lessR; simp only; split <;> rfl
theorem emptyR_roots {S : Hp} {i f : Int} : (emptyR S i f).roots = S.roots := by unfold emptyR; simp only; split; exact lessR_roots; rfl
theorem RootsOk.of {S S' : Hp} (h : RootsOk S) (h1 : S'.roots = S.roots) (h2 : S'.cells.length = S.cells.length) : RootsOk S' := ⟨by rw [h1]; exact h.keys, by rw [h1, h2]; exact h.in_⟩
theorem both_empty {A : Int} {S : Hp} {Q : Rp} (h : Both A S Q) {i f : Int} (h0 : 0 ≤ i) (h1 : i < Q.cells.length) (f0 : 0 ≤ f) (f1 : f < (nth Q.cells i).fs.length) :
    Both A (emptyR S i f) (emptyQ Q i f) ∧ phi (emptyQ Q i f) ≤ phi Q + 1 := by
  obtain ⟨e1, e2, e3⟩ := sim_empty h.sim h.good h0 h1 f0 f1
  exact ⟨⟨e1, e2, h.ro.of emptyR_roots emptyR_len⟩, e3⟩
/-- What is told of a cell changes, and its fields stay: general. -/
theorem both_cell {A : Int} {S : Hp} {Q : Rp} (h : Both A S Q) {i : Int} (h0 : 0 ≤ i) (h1 : i < Q.cells.length) {c : Cel} (hf : c.fs = (nth Q.cells i).fs) (hn : 0 ≤ c.n ∧ c.n + age c ≤ A) (he : c.e = true → c.n = 0 ∧ refs Q.cells i = 0)
    {rs : List (Int × Int)} (hr : ∀ j, rget rs j = if j = i then c.n else rget S.roots j) (hk : Keys rs) (hin : ∀ e ∈ rs, 0 ≤ e.1 ∧ e.1 < S.cells.length ∧ 0 < e.2) :
    Both A { S with cells := S.cells.set i.toNat { c with n := c.n + refs Q.cells i }, roots := rs } (qset Q i c) := by
  have hS1 : i < S.cells.length := by rw [h.sim.len]; exact h1
  refine ⟨⟨by simp [h.sim.len], h.sim.notes, fun a a0 a1 => ?_⟩, ⟨h.good.shp.set (by rw [hf]; exact h.good.shp.fl _ (nth_mem h0 h1)), ?_, by rw [qset_len]; exact h.good.notes, mem_set_of h.good.n hn, ?_⟩, ⟨hk, by simpa using hin⟩⟩
  · rw [qset_len] at a1
    obtain ⟨b1, b2⟩ := h.sim.at_ a a0 a1
    have hre : refs (qset Q i c).cells a = refs Q.cells a := refs_same h0 h1 hf a
    rw [hre, qset_nth h0 h1 a0]
    simp only
    rw [nth_set h0 hS1 a0, hr]
    by_cases e : i = a
    · subst e; simp
    · rw [if_neg e, if_neg e, if_neg (Ne.symm e)]; exact ⟨b1, b2⟩
  · rw [qset_len]; exact mem_set_of h.good.to (by rw [hf]; exact h.good.to _ (nth_mem h0 h1))
  · intro a a0 a1 hea
    rw [qset_len] at a1
    have hre : refs (qset Q i c).cells a = refs Q.cells a := refs_same h0 h1 hf a
    rw [hre]
    rw [qset_nth h0 h1 a0] at hea ⊢
    by_cases e : i = a
    · subst e; rw [if_pos rfl] at hea ⊢; exact he hea
    · rw [if_neg e] at hea ⊢; exact h.good.en a a0 a1 hea
theorem phi_cell {Q : Rp} {i : Int} (h0 : 0 ≤ i) (h1 : i < Q.cells.length) {c : Cel} (hc : life c ≤ life (nth Q.cells i)) : phi (qset Q i c) ≤ phi Q := by
  have := phi_set h0 h1 c; omega
theorem Sane.mono {A B : Int} {Q : Rp} (g : Sane A Q) (h : A ≤ B) : Sane B Q := ⟨g.shp, g.to, g.notes, fun c hc => by have := g.n c hc; omega, g.en⟩
theorem Both.mono {A B : Int} {S : Hp} {Q : Rp} (g : Both A S Q) (h : A ≤ B) : Both B S Q := ⟨g.sim, g.good.mono h, g.ro⟩
/-! ### Make -/
theorem refs_append (cs : List Cel) (c : Cel) (a : Int) : refs (cs ++ [c]) a = refs cs a + cnt c.fs a := by simp [refs]
theorem nth_append {cs : List Cel} {c : Cel} {i : Int} (h0 : 0 ≤ i) (h1 : i < cs.length) : nth (cs ++ [c]) i = nth cs i := by
  have hi : i.toNat < cs.length := by omega
  unfold nth
  rw [List.getD_eq_getElem?_getD, List.getD_eq_getElem?_getD, List.getElem?_append_left hi]
theorem nth_append_last {cs : List Cel} {c : Cel} {i : Int} (h1 : i = cs.length) : nth (cs ++ [c]) i = c := by
  subst h1
  unfold nth
  rw [List.getD_eq_getElem?_getD, Int.toNat_natCast, List.getElem?_append_right (Nat.le_refl _)]
  simp
theorem cnt_zeros (n : Nat) (a : Int) : cnt (List.replicate n (⟨false, false, 0⟩ : Fld)) a = 0 := by
  unfold cnt; rw [List.countP_eq_zero]; intro x hx; rw [(List.mem_replicate.1 hx).2]; simp [strongTo]
theorem refs_out {A : Int} {Q : Rp} (g : Sane A Q) {a : Int} (ha : ¬ (0 ≤ a ∧ a < Q.cells.length)) : refs Q.cells a = 0 := by
  have key : ∀ cs : List Cel, (∀ c ∈ cs, ∀ x ∈ c.fs, x.is = true → x.to ≠ a) → refs cs a = 0 := by
    intro cs
    induction cs with
    | nil => intro _; rfl
    | cons c r ih =>
      intro h
      have e1 := ih fun d hd => h d (by simp [hd])
      have e2 : cnt c.fs a = 0 := by
        unfold cnt; rw [List.countP_eq_zero]
        intro x hx hs
        exact h c (by simp) x hx (strong_eq.1 hs).1 (strong_eq.1 hs).2.2
      simp only [refs, List.map_cons, List.sum_cons] at e1 ⊢
      omega
  exact key _ fun c hc x hx hi e => ha (by rw [← e]; exact g.to c hc x hx hi)
theorem both_make {A : Int} (hA : 1 ≤ A) {S : Hp} {Q : Rp} (h : Both A S Q) (n : Int) (w : Bool) :
    (makeR S n w).2 = (makeQ Q n w).2 ∧ Both A (makeR S n w).1 (makeQ Q n w).1 ∧ phi (makeQ Q n w).1 ≤ phi Q + 12 := by
  unfold makeQ makeR
  by_cases c1 : n < 0 ∨ 8 < n
  · rw [if_pos c1, if_pos c1]; exact ⟨rfl, h, by show phi Q ≤ _; omega⟩
  · rw [if_neg c1, if_neg c1]
    have hlen : (S.cells.length = 100) = (Q.hp.cells.length = 100) := by rw [h.sim.len]; rfl
    simp only [hlen]
    by_cases c2 : Q.hp.cells.length = 100
    · rw [if_pos c2, if_pos c2]; exact ⟨rfl, h, by show phi Q ≤ _; omega⟩
    · rw [if_neg c2, if_neg c2]
      have c2' : ¬ Q.cells.length = 100 := c2
      have hl := h.good.shp.len
      obtain ⟨c, hc⟩ : ∃ c : Cel, c = ⟨List.replicate n.toNat ⟨false, false, 0⟩, w, false, false, 0⟩ := ⟨_, rfl⟩
      have hcf : ∀ a, cnt c.fs a = 0 := fun a => by rw [hc]; exact cnt_zeros _ _
      have hre : ∀ a, refs (Q.cells ++ [c]) a = refs Q.cells a := fun a => by rw [refs_append, hcf]; rfl
      refine ⟨by simp [h.sim.len], ?_, ?_⟩
      · show Both A { S with cells := S.cells ++ [_], notes := S.notes ++ [(S.cells.length : Int)] } ⟨Q.cells ++ [_], Q.notes ++ [(Q.cells.length : Int)]⟩
        rw [← hc]
        refine ⟨⟨by simp [h.sim.len], by simp [h.sim.notes, h.sim.len], fun a a0 a1 => ?_⟩, ⟨⟨by simp; omega, ?_⟩, ?_, ?_, ?_, ?_⟩, ⟨h.ro.keys, fun e he => ?_⟩⟩
        · simp only [List.length_append, List.length_singleton, Int.natCast_add, Int.natCast_one] at a1
          rw [hre]
          by_cases e : a = Q.cells.length
          · subst e
            rw [nth_append_last (by rw [h.sim.len]), nth_append_last rfl, refs_out h.good (by omega)]
            refine ⟨by rw [hc]; rfl, ?_⟩
            rw [hc]
            show rget S.roots _ = 0
            refine rget_not fun hm => ?_
            obtain ⟨e, he, hk⟩ := List.mem_map.1 hm
            have := h.ro.in_ e he
            rw [hk, h.sim.len] at this
            omega
          · rw [nth_append a0 (by rw [h.sim.len]; omega), nth_append a0 (by omega)]
            exact h.sim.at_ a a0 (by omega)
        · intro d hd
          rcases List.mem_append.1 hd with hd | hd
          · exact h.good.shp.fl d hd
          · simp at hd; subst hd; rw [hc]; simp; omega
        · intro d hd x hx hi
          simp only [List.length_append, List.length_singleton]
          rcases List.mem_append.1 hd with hd | hd
          · have := h.good.to d hd x hx hi; omega
          · simp at hd; subst hd; rw [hc] at hx
            rw [(List.mem_replicate.1 hx).2] at hi; cases hi
        · intro a ha
          simp only [List.length_append, List.length_singleton]
          rcases List.mem_append.1 ha with ha | ha
          · have := h.good.notes a ha; omega
          · simp at ha; subst ha; omega
        · intro d hd
          rcases List.mem_append.1 hd with hd | hd
          · exact h.good.n d hd
          · simp at hd; subst hd; rw [hc]; simp [age]; exact hA
        · intro a a0 a1 he
          simp only [List.length_append, List.length_singleton, Int.natCast_add, Int.natCast_one] at a1
          simp only [hre]
          by_cases e : a = Q.cells.length
          · rw [nth_append_last e, hc] at he; cases he
          · rw [nth_append a0 (by omega)] at he ⊢
            exact h.good.en a a0 (by omega) he
        · have := h.ro.in_ e he
          simp only [List.length_append, List.length_singleton]
          omega
      · show phi ⟨Q.cells ++ [_], Q.notes ++ [(Q.cells.length : Int)]⟩ ≤ _
        simp [phi, wsum, life]
        omega
end Go.Am

/- The plain law of the heap: set, clear, root, drop. -/
set_option linter.unusedVariables false
set_option linter.unusedSimpArgs false
namespace Go.Am
theorem emptyQ_nth {Q : Rp} {i f j : Int} (h0 : 0 ≤ i) (h1 : i < Q.cells.length) (hj : 0 ≤ j) :
    nth (emptyQ Q i f).cells j = if i = j then { nth Q.cells i with fs := (nth Q.cells i).fs.set f.toNat ⟨false, false, 0⟩ } else nth Q.cells j := by
  rw [emptyQ_cells]; exact nth_set h0 h1 hj
/-- An empty field is set. -/
theorem both_put {A : Int} {S : Hp} {Q : Rp} (h : Both A S Q) {i f : Int} (h0 : 0 ≤ i) (h1 : i < Q.cells.length) (f0 : 0 ≤ f) (f1 : f < (nth Q.cells i).fs.length) (hz : (nth (nth Q.cells i).fs f).is = false)
    {to : Int} (t0 : 0 ≤ to) (t1 : to < Q.cells.length) (te : (nth Q.cells to).e = false) (weak : Bool) :
    Both A (if weak = true then setC S i { nth S.cells i with fs := (nth S.cells i).fs.set f.toNat ⟨true, weak, to⟩ } else
      setC (setC S i { nth S.cells i with fs := (nth S.cells i).fs.set f.toNat ⟨true, weak, to⟩ }) to { nth (setC S i { nth S.cells i with fs := (nth S.cells i).fs.set f.toNat ⟨true, weak, to⟩ }).cells to with n := (nth (setC S i { nth S.cells i with fs := (nth S.cells i).fs.set f.toNat ⟨true, weak, to⟩ }).cells to).n + 1 })
      (qset Q i { nth Q.cells i with fs := (nth Q.cells i).fs.set f.toNat ⟨true, weak, to⟩ }) ∧ phi (qset Q i { nth Q.cells i with fs := (nth Q.cells i).fs.set f.toNat ⟨true, weak, to⟩ }) = phi Q := by
  obtain ⟨y, hy⟩ : ∃ y : Fld, y = ⟨true, weak, to⟩ := ⟨_, rfl⟩
  have hyi : y.is = true := by rw [hy]
  have hyw : y.weak = weak := by rw [hy]
  have hyt : y.to = to := by rw [hy]
  rw [← hy]
  have hc := h.sim.cell h0 h1
  have hS1 : i < S.cells.length := by rw [h.sim.len]; exact h1
  obtain ⟨S1, hSS⟩ : ∃ S1, setC S i { nth S.cells i with fs := (nth S.cells i).fs.set f.toNat y } = S1 := ⟨_, rfl⟩
  obtain ⟨Q1, hQ1⟩ : ∃ Q1, qset Q i { nth Q.cells i with fs := (nth Q.cells i).fs.set f.toNat y } = Q1 := ⟨_, rfl⟩
  have hl1 : Q1.cells.length = Q.cells.length := by rw [← hQ1]; simp
  have hlS : S1.cells.length = S.cells.length := by rw [← hSS]; simp
  have refsE : ∀ a : Int, (refs Q1.cells a : Int) = refs Q.cells a + one_ (strongTo a y) := by
    intro a
    have := sim_setFs h.sim h.good h0 h1 f0 f1 y a
    have hzz : strongTo a (nth (nth Q.cells i).fs f) = false := by simp [strongTo, hz]
    rw [hQ1, hzz] at this
    simpa [one_] using this
  have cellQ1 : ∀ a : Int, 0 ≤ a → nth Q1.cells a = if i = a then { nth Q.cells i with fs := (nth Q.cells i).fs.set f.toNat y } else nth Q.cells a := fun a ha => by rw [← hQ1]; exact qset_nth h0 h1 ha
  have cellS1 : ∀ a : Int, 0 ≤ a → nth S1.cells a = if i = a then { nth S.cells i with fs := (nth S.cells i).fs.set f.toNat y } else nth S.cells a := fun a ha => by rw [← hSS]; exact setC_nth h0 hS1 ha
  have strong : ∀ a, one_ (strongTo a y) = if weak = false ∧ to = a then 1 else 0 := by
    intro a
    rw [hy]
    cases weak <;> simp [strongTo, one_]
  have g1 : Sane A Q1 := by
    rw [← hQ1]
    refine h.good.setFs h0 h1 (by simpa using h.good.shp.fl _ (nth_mem h0 h1)) (fun z hz => ?_) (fun a a0 a1 he => ?_)
    · rcases List.mem_or_eq_of_mem_set hz with hz | rfl
      · exact h.good.to _ (nth_mem h0 h1) z hz
      · intro _; rw [hyt]; exact ⟨t0, t1⟩
    · have e1 := refsE a
      have e2 := (h.good.en a a0 a1 he).2
      rw [strong, if_neg] at e1
      · rw [hQ1]; omega
      · rintro ⟨_, rfl⟩; rw [te] at he; cases he
  have ph1 : phi Q1 = phi Q := by
    have := phi_set h0 h1 { nth Q.cells i with fs := (nth Q.cells i).fs.set f.toNat y }
    rw [hQ1] at this
    simp only [life] at this
    omega
  have hrS : S1.roots = S.roots := by rw [← hSS]; rfl
  have hnS : S1.notes = Q1.notes := by rw [← hSS, ← hQ1]; exact h.sim.notes
  have base : ∀ a : Int, 0 ≤ a → a < Q.cells.length → nth S1.cells a = { nth Q1.cells a with n := (nth Q1.cells a).n + refs Q.cells a } ∧ rget S1.roots a = (nth Q1.cells a).n := by
    intro a a0 a1
    obtain ⟨b1, b2⟩ := h.sim.at_ a a0 a1
    have hn : (nth Q1.cells a).n = (nth Q.cells a).n := by
      rw [cellQ1 a a0]; split
      · rename_i e; subst e; rfl
      · rfl
    refine ⟨?_, by rw [hrS, b2, hn]⟩
    rw [cellS1 a a0, cellQ1 a a0]
    by_cases e : i = a
    · subst e
      rw [if_pos rfl, if_pos rfl, b1]
    · rw [if_neg e, if_neg e, b1]
  rw [hSS, hQ1]
  refine ⟨?_, ph1⟩
  cases weak with
  | true =>
    rw [if_pos rfl]
    refine ⟨⟨by rw [hlS, hl1, h.sim.len], hnS, fun a a0 a1 => ?_⟩, g1, h.ro.of hrS hlS⟩
    rw [hl1] at a1
    obtain ⟨b1, b2⟩ := base a a0 a1
    have := refsE a
    rw [strong, if_neg (by simp)] at this
    exact ⟨by rw [b1, this]; simp, b2⟩
  | false =>
    rw [if_neg (by simp)]
    have tS : to < S1.cells.length := by rw [hlS, h.sim.len]; exact t1
    refine ⟨⟨by rw [← hl1] at t1; simp [hlS, hl1, h.sim.len], hnS, fun a a0 a1 => ?_⟩, g1, h.ro.of hrS (by simp [hlS])⟩
    rw [hl1] at a1
    obtain ⟨b1, b2⟩ := base a a0 a1
    have e1 := refsE a
    rw [strong] at e1
    refine ⟨?_, b2⟩
    rw [setC_nth t0 tS a0]
    by_cases e : to = a
    · subst e
      rw [if_pos (by simp)] at e1
      rw [if_pos rfl, b1, e1]
      simp only [Cel.mk.injEq, true_and]
      omega
    · rw [if_neg (by simp [e])] at e1
      rw [if_neg e, b1, e1]; simp
theorem both_set {A : Int} {S : Hp} {Q : Rp} (h : Both A S Q) (i f to : Int) (weak : Bool) :
    (setR S i f to weak).2 = (setQ Q i f to weak).2 ∧ Both A (setR S i f to weak).1 (setQ Q i f to weak).1 ∧ phi (setQ Q i f to weak).1 ≤ phi Q + 12 := by
  unfold setR setQ
  rw [h.sim.hasField, h.sim.has]
  by_cases c1 : hasFieldR Q.hp i f ≠ 0
  · rw [if_pos c1, if_pos c1]; exact ⟨rfl, h, by show phi Q ≤ _; omega⟩
  · rw [if_neg c1, if_neg c1]
    by_cases c2 : hasR Q.hp to true ≠ 0
    · rw [if_pos c2, if_pos c2]; exact ⟨rfl, h, by show phi Q ≤ _; omega⟩
    · rw [if_neg c2, if_neg c2]
      obtain ⟨q1, q2, q3, q4, q5⟩ := hasFieldR_in (Decidable.not_not.1 c1)
      obtain ⟨t1, t2, t3⟩ := hasR_in (Decidable.not_not.1 c2)
      simp only [Rp.hp_cells] at q2 q3 q5 t2 t3
      obtain ⟨g, gp⟩ := both_empty h q1 q2 q4 q5
      obtain ⟨l1, l2⟩ := emptyQ_lens (S := Q) (a := i) (f := f) q1 q2
      have hz : (nth (nth (emptyQ Q i f).cells i).fs f).is = false := by
        rw [emptyQ_nth q1 q2 q1, if_pos rfl]
        simp only
        rw [nth_set q4 q5 q4, if_pos rfl]
      have te : (nth (emptyQ Q i f).cells to).e = false := by
        rw [emptyQ_nth q1 q2 t1]
        split
        · rename_i e; subst e; exact q3
        · exact t3 trivial
      obtain ⟨b, bp⟩ := both_put g q1 (by rw [l1]; exact q2) q4 (by rw [l2]; exact q5) hz t1 (by rw [l1]; exact t2) te weak
      refine ⟨rfl, b, ?_⟩
      show phi (qset _ _ _) ≤ _
      rw [bp]; omega
theorem both_clear {A : Int} {S : Hp} {Q : Rp} (h : Both A S Q) (i f : Int) :
    (if hasFieldR S i f ≠ 0 then (S, hasFieldR S i f) else (emptyR S i f, 0)).2 = (clearQ Q i f).2 ∧ Both A (if hasFieldR S i f ≠ 0 then (S, hasFieldR S i f) else (emptyR S i f, 0)).1 (clearQ Q i f).1 ∧ phi (clearQ Q i f).1 ≤ phi Q + 12 := by
  unfold clearQ
  rw [h.sim.hasField]
  by_cases c1 : hasFieldR Q.hp i f ≠ 0
  · rw [if_pos c1, if_pos c1]; exact ⟨rfl, h, by show phi Q ≤ _; omega⟩
  · rw [if_neg c1, if_neg c1]
    obtain ⟨q1, q2, q3, q4, q5⟩ := hasFieldR_in (Decidable.not_not.1 c1)
    simp only [Rp.hp_cells] at q2 q3 q5
    obtain ⟨g, gp⟩ := both_empty h q1 q2 q4 q5
    exact ⟨rfl, g, by show phi (emptyQ Q i f) ≤ _; omega⟩
theorem RootsOk.set {S : Hp} (h : RootsOk S) {i v : Int} (h0 : 0 ≤ i) (h1 : i < S.cells.length) (hv : 0 < v) : Keys (rset S.roots i v) ∧ ∀ e ∈ rset S.roots i v, 0 ≤ e.1 ∧ e.1 < S.cells.length ∧ 0 < e.2 := by
  refine ⟨h.keys.rset i v, fun e he => ?_⟩
  rcases mem_rset_e e he with rfl | he
  · exact ⟨h0, h1, hv⟩
  · exact h.in_ e he
theorem both_root {A : Int} {S : Hp} {Q : Rp} (h : Both A S Q) (i : Int) :
    (if hasR S i true ≠ 0 then (S, hasR S i true) else (rootR S i, 0)).2 = (rootQ Q i).2 ∧ Both (A + 1) (if hasR S i true ≠ 0 then (S, hasR S i true) else (rootR S i, 0)).1 (rootQ Q i).1 ∧ phi (rootQ Q i).1 ≤ phi Q + 12 := by
  unfold rootQ
  rw [h.sim.has]
  by_cases c1 : hasR Q.hp i true ≠ 0
  · rw [if_pos c1, if_pos c1]; exact ⟨rfl, h.mono (by omega), by show phi Q ≤ _; omega⟩
  · rw [if_neg c1, if_neg c1]
    obtain ⟨q1, q2, q3⟩ := hasR_in (Decidable.not_not.1 c1)
    simp only [Rp.hp_cells] at q2 q3
    obtain ⟨b1, b2⟩ := h.sim.at_ i q1 q2
    have qS : i < S.cells.length := by rw [h.sim.len]; exact q2
    have gn := h.good.n _ (nth_mem q1 q2)
    obtain ⟨k1, k2⟩ := h.ro.set q1 qS (v := rget S.roots i + 1) (by rw [b2]; omega)
    have := both_cell (h.mono (B := A + 1) (by omega)) q1 q2 (c := { nth Q.cells i with n := (nth Q.cells i).n + 1 }) rfl (by simp only [age] at gn ⊢; omega) (fun he => by have hee : (nth Q.cells i).e = true := he; rw [q3 trivial] at hee; cases hee)
      (rs := rset S.roots i (rget S.roots i + 1)) (fun j => by rw [rget_rset, b2]) k1 k2
    refine ⟨rfl, ?_, ?_⟩
    · show Both (A + 1) (rootR S i) (qset Q i _)
      have e : rootR S i = { S with cells := S.cells.set i.toNat { { nth Q.cells i with n := (nth Q.cells i).n + 1 } with n := (nth Q.cells i).n + 1 + refs Q.cells i }, roots := rset S.roots i (rget S.roots i + 1) } := by
        unfold rootR setC
        rw [b1]
        simp only [Hp.mk.injEq, and_true]
        congr 2
        omega
      rw [e]; exact this
    · have := phi_cell q1 q2 (c := { nth Q.cells i with n := (nth Q.cells i).n + 1 }) (Nat.le_refl _)
      show phi (qset Q i _) ≤ _
      omega
theorem both_note {A : Int} {S : Hp} {Q : Rp} (h : Both A S Q) {a : Int} (h0 : 0 ≤ a) (h1 : a < Q.cells.length) : Both A { S with notes := S.notes ++ [a] } { Q with notes := Q.notes ++ [a] } :=
  ⟨⟨h.sim.len, by simp [h.sim.notes], h.sim.at_⟩, ⟨h.good.shp, h.good.to, fun x hx => by
    rcases List.mem_append.1 hx with hx | hx
    · exact h.good.notes x hx
    · rw [List.mem_singleton] at hx; subst hx; exact ⟨h0, h1⟩, h.good.n, h.good.en⟩, ⟨h.ro.keys, h.ro.in_⟩⟩
theorem both_take {A : Int} {S : Hp} {Q : Rp} (h : Both A S Q) {a : Int} {r : List Int} (hn : Q.notes = a :: r) : Both A { S with notes := r } { Q with notes := r } ∧ phi Q = phi { Q with notes := r } + 1 :=
  ⟨⟨⟨h.sim.len, rfl, h.sim.at_⟩, ⟨h.good.shp, h.good.to, fun x hx => h.good.notes x (by rw [hn]; exact List.mem_cons.2 (.inr hx)), h.good.n, h.good.en⟩, ⟨h.ro.keys, h.ro.in_⟩⟩, by unfold phi; rw [hn]; simp; omega⟩
/-- A root less. -/
theorem both_unroot {A : Int} {S : Hp} {Q : Rp} (h : Both A S Q) {i : Int} (h0 : 0 ≤ i) (h1 : i < Q.cells.length) (hn : (nth Q.cells i).n ≠ 0) :
    Both A (unrootR S i) (noteQ (qset Q i { nth Q.cells i with n := (nth Q.cells i).n - 1 }) i) ∧ phi (noteQ (qset Q i { nth Q.cells i with n := (nth Q.cells i).n - 1 }) i) ≤ phi Q + 1 := by
  obtain ⟨b1, b2⟩ := h.sim.at_ i h0 h1
  have hS : i < S.cells.length := by rw [h.sim.len]; exact h1
  have gn := h.good.n _ (nth_mem h0 h1)
  obtain ⟨c, hc⟩ : ∃ c : Cel, c = { nth Q.cells i with n := (nth Q.cells i).n - 1 } := ⟨_, rfl⟩
  have hcn : c.n = (nth Q.cells i).n - 1 := by rw [hc]
  have hce : c.e = (nth Q.cells i).e := by rw [hc]
  have hca : age c = age (nth Q.cells i) := by rw [hc]; rfl
  obtain ⟨rs, hrs⟩ : ∃ rs, rs = if rget (rset S.roots i (rget S.roots i - 1)) i = 0 then rdel (rset S.roots i (rget S.roots i - 1)) i else rset S.roots i (rget S.roots i - 1) := ⟨_, rfl⟩
  have hcond : rget (rset S.roots i (rget S.roots i - 1)) i = (nth Q.cells i).n - 1 := by rw [rget_rset, if_pos rfl, b2]
  have hr : ∀ j, rget rs j = if j = i then c.n else rget S.roots j := by
    intro j
    rw [hrs, hcond]
    by_cases hz : (nth Q.cells i).n - 1 = 0
    · rw [if_pos hz, rget_rdel (h.ro.keys.rset _ _), rget_rset]
      by_cases e : j = i
      · rw [if_pos e, if_pos e, hcn, hz]
      · rw [if_neg e, if_neg e, if_neg e]
    · rw [if_neg hz, rget_rset, b2, hcn]
  have hk : Keys rs := by
    rw [hrs]; split
    · exact (h.ro.keys.rset _ _).rdel _
    · exact h.ro.keys.rset _ _
  have hin : ∀ e ∈ rs, 0 ≤ e.1 ∧ e.1 < S.cells.length ∧ 0 < e.2 := by
    intro e he
    rw [hrs, hcond] at he
    by_cases hz : (nth Q.cells i).n - 1 = 0
    · rw [if_pos hz] at he
      have hne := mem_rdel_set h.ro.keys e he
      rcases mem_rset_e e (mem_rdel_e e he) with rfl | he
      · exact absurd rfl hne
      · exact h.ro.in_ e he
    · rw [if_neg hz] at he
      rcases mem_rset_e e he with rfl | he
      · exact ⟨h0, hS, by simp only; omega⟩
      · exact h.ro.in_ e he
  have hB := both_cell h h0 h1 (c := c) (by rw [hc]) (by rw [hcn, hca]; omega) (fun he => by have := (h.good.en i h0 h1 (by rw [← hce]; exact he)); exact absurd this.1 hn) hr hk hin
  obtain ⟨Q1, hQ1⟩ : ∃ Q1, qset Q i c = Q1 := ⟨_, rfl⟩
  have ph1 : phi Q1 ≤ phi Q := by rw [← hQ1]; exact phi_cell h0 h1 (by rw [hc]; exact Nat.le_refl _)
  rw [← hc, hQ1]
  rw [hQ1] at hB
  have q1 : i < Q1.cells.length := by rw [← hQ1, qset_len]; exact h1
  have hct := hB.good.counted h0 q1
  have hcell := hB.sim.cell h0 q1
  have hsn : (nth S.cells i).n - 1 = countedR Q1 i := by
    rw [hct, b1]
    have e1 : nth Q1.cells i = c := by rw [← hQ1, qset_nth h0 h1 h0, if_pos rfl]
    have e2 : refs Q1.cells i = refs Q.cells i := by rw [← hQ1]; exact refs_same h0 h1 (by rw [hc]) i
    rw [e1, e2, hcn]
    simp only; omega
  have hU : unrootR S i = lessR { S with roots := rs } i := by
    unfold unrootR
    simp only
    rw [hrs]
    split <;> rfl
  have hset : setC { S with roots := rs } i { nth S.cells i with n := (nth S.cells i).n - 1 } = { S with cells := S.cells.set i.toNat { c with n := c.n + refs Q.cells i }, roots := rs } := by
    unfold setC
    rw [b1, hcn, hc]
    simp only [Hp.mk.injEq, and_true]
    congr 2
    omega
  rw [hU]
  unfold lessR noteQ
  simp only [hset]
  rw [hsn]
  by_cases hz : countedR Q1 i = 0
  · rw [if_pos hz, if_pos hz]
    refine ⟨both_note hB h0 q1, ?_⟩
    simp only [phi, List.length_append, List.length_singleton] at ph1 ⊢
    omega
  · rw [if_neg hz, if_neg hz]
    exact ⟨hB, by omega⟩
theorem both_drop {A : Int} {S : Hp} {Q : Rp} (h : Both A S Q) (i : Int) :
    (dropR S i).2 = (dropQ Q i).2 ∧ Both A (dropR S i).1 (dropQ Q i).1 ∧ phi (dropQ Q i).1 ≤ phi Q + 12 := by
  unfold dropR dropQ
  rw [h.sim.has]
  by_cases c1 : hasR Q.hp i true ≠ 0
  · rw [if_pos c1, if_pos c1]; exact ⟨rfl, h, by show phi Q ≤ _; omega⟩
  · rw [if_neg c1, if_neg c1]
    obtain ⟨q1, q2, q3⟩ := hasR_in (Decidable.not_not.1 c1)
    simp only [Rp.hp_cells] at q2 q3
    rw [(h.sim.at_ i q1 q2).2]
    by_cases c2 : (nth Q.cells i).n = 0
    · rw [if_pos c2, if_pos c2]; exact ⟨rfl, h, by show phi Q ≤ _; omega⟩
    · rw [if_neg c2, if_neg c2]
      obtain ⟨g, gp⟩ := both_unroot h q1 q2 c2
      exact ⟨rfl, g, by show phi (noteQ _ _) ≤ _; omega⟩
end Go.Am

/- The plain law of the heap: the ends, next, settle. -/
set_option linter.unusedVariables false
set_option linter.unusedSimpArgs false
namespace Go.Am
theorem strong_clr (a b : Int) (x : Fld) : strongTo b (clr a x) = strongTo b x := by
  unfold clr
  split
  · rename_i h; simp [strongTo, h.2.1]
  · rfl
theorem cnt_clr (a b : Int) (fs : List Fld) : cnt (fs.map (clr a)) b = cnt fs b := by
  unfold cnt
  rw [List.countP_map]
  congr 1
  funext x
  exact strong_clr a b x
theorem refs_clr (a b : Int) (cs : List Cel) : refs (cs.map (clrC a)) b = refs cs b := by
  unfold refs
  rw [List.map_map]
  congr 1
  apply List.map_congr_left
  intro c _
  exact cnt_clr a b c.fs
theorem nth_clr {cs : List Cel} {i a : Int} (h0 : 0 ≤ i) (h1 : i < cs.length) : nth (cs.map (clrC a)) i = clrC a (nth cs i) := by
  have hi : i.toNat < cs.length := by omega
  simp [nth, hi]
theorem both_weak {A : Int} {S : Hp} {Q : Rp} (h : Both A S Q) (a : Int) : Both A (weakR S a) (weakQ Q a) ∧ phi (weakQ Q a) = phi Q := by
  refine ⟨⟨⟨by simp [weakR, weakQ, h.sim.len], h.sim.notes, fun i i0 i1 => ?_⟩, ⟨⟨by simpa [weakQ] using h.good.shp.len, ?_⟩, ?_, by simpa [weakQ] using h.good.notes, ?_, ?_⟩, ⟨h.ro.keys, by simpa [weakR] using h.ro.in_⟩⟩, ?_⟩
  · have i1' : i < Q.cells.length := by simpa [weakQ] using i1
    obtain ⟨b1, b2⟩ := h.sim.at_ i i0 i1'
    simp only [weakR, weakQ]
    rw [nth_clr i0 (by rw [h.sim.len]; exact i1'), nth_clr i0 i1', refs_clr, b1]
    exact ⟨rfl, b2⟩
  · intro c hc
    obtain ⟨d, hd, rfl⟩ := List.mem_map.1 hc
    simpa [clrC] using h.good.shp.fl d hd
  · intro c hc x hx hi
    obtain ⟨d, hd, rfl⟩ := List.mem_map.1 hc
    obtain ⟨y, hy, rfl⟩ := List.mem_map.1 hx
    simp only [weakQ, List.length_map]
    unfold clr at hi ⊢
    split at hi
    · cases hi
    · rename_i hn; rw [if_neg hn]; exact h.good.to d hd y hy hi
  · intro c hc
    obtain ⟨d, hd, rfl⟩ := List.mem_map.1 hc
    exact h.good.n d hd
  · intro i i0 i1 he
    have i1' : i < Q.cells.length := by simpa [weakQ] using i1
    simp only [weakQ] at he ⊢
    rw [nth_clr i0 i1'] at he ⊢
    rw [refs_clr]
    exact h.good.en i i0 i1' he
  · unfold phi wsum weakQ
    simp only [List.map_map]
    congr 1
theorem both_empties {A : Int} {S : Hp} {Q : Rp} (h : Both A S Q) {a : Int} (h0 : 0 ≤ a) (h1 : a < Q.cells.length) :
    ∀ n : Nat, n ≤ (nth Q.cells a).fs.length → Both A (emptiesR S a n) (emptiesQ Q a n) ∧ phi (emptiesQ Q a n) ≤ phi Q + n
  | 0, _ => ⟨h, by simp [emptiesQ]⟩
  | n + 1, hn => by
    obtain ⟨g, gp⟩ := both_empties h h0 h1 n (by omega)
    obtain ⟨l1, l2⟩ := emptiesQ_lens (S := Q) (a := a) h0 h1 n
    obtain ⟨e, ep⟩ := both_empty g (i := a) (f := (n : Int)) h0 (by rw [l1]; exact h1) (by omega) (by rw [l2]; omega)
    exact ⟨e, by show phi (emptyQ _ _ _) ≤ _; omega⟩
/-- A cell ends. -/
theorem both_end {A : Int} {S : Hp} {Q : Rp} (h : Both A S Q) {a : Int} (h0 : 0 ≤ a) (h1 : a < Q.cells.length) (he : (nth Q.cells a).e = false) (hn : (nth Q.cells a).n = 0 ∧ refs Q.cells a = 0) (hA : A ≤ 2 ^ 40) (hp : phi Q < 2 ^ 38) :
    Both A (endR S a) (endQ Q a) ∧ phi (endQ Q a) + 1 ≤ phi Q ∧
    (∀ j, j < (nth S.cells a).fs.length → EPre (emptiesR (weakR (setC S a { nth S.cells a with e := true }) a) a j) a j) ∧
    (∀ j, j < (nth Q.cells a).fs.length → QBnd (emptiesQ (weakQ (qset Q a { nth Q.cells a with e := true }) a) a j) ∧ QTo (emptiesQ (weakQ (qset Q a { nth Q.cells a with e := true }) a) a j) a j) := by
  obtain ⟨b1, b2⟩ := h.sim.at_ a h0 h1
  have gn := h.good.n _ (nth_mem h0 h1)
  have hB := both_cell h h0 h1 (c := { nth Q.cells a with e := true }) rfl gn (fun _ => hn) (rs := S.roots) (fun j => by
    by_cases e : j = a
    · rw [if_pos e, e, b2]
    · rw [if_neg e]) h.ro.keys h.ro.in_
  have hset : setC S a { nth S.cells a with e := true } = { S with cells := S.cells.set a.toNat { { nth Q.cells a with e := true } with n := ({ nth Q.cells a with e := true } : Cel).n + refs Q.cells a }, roots := S.roots } := by
    unfold setC; rw [b1]
  rw [← hset] at hB
  have hph := phi_set h0 h1 { nth Q.cells a with e := true }
  have hl : life (nth Q.cells a) = 9 + (if (nth Q.cells a).t then 0 else 2) := by simp [life, he]
  have hl2 : life { nth Q.cells a with e := true } = (if (nth Q.cells a).t then 0 else 2) := by simp [life]
  obtain ⟨Q1, hQ1⟩ : ∃ Q1, qset Q a { nth Q.cells a with e := true } = Q1 := ⟨_, rfl⟩
  obtain ⟨S1, hS1⟩ : ∃ S1, setC S a { nth S.cells a with e := true } = S1 := ⟨_, rfl⟩
  have lq : Q1.cells.length = Q.cells.length ∧ (nth Q1.cells a).fs = (nth Q.cells a).fs := by
    rw [← hQ1, qset_nth h0 h1 h0, if_pos rfl]; simp
  unfold endR endQ
  simp only
  rw [hQ1, hS1] at hB
  rw [hQ1] at hph
  rw [hQ1, hS1]
  obtain ⟨hW, hWp⟩ := both_weak hB a
  have h1' : a < Q1.cells.length := by rw [lq.1]; exact h1
  have lw := weakQ_lens (S := Q1) (a := a) h0 h1'
  rw [lq.1, lq.2] at lw
  obtain ⟨Q2, hQ2⟩ : ∃ Q2, weakQ Q1 a = Q2 := ⟨_, rfl⟩
  obtain ⟨S2, hS2⟩ : ∃ S2, weakR S1 a = S2 := ⟨_, rfl⟩
  rw [hQ2] at hWp lw
  rw [hQ2, hS2] at hW
  rw [hQ2, hS2]
  have h2' : a < Q2.cells.length := by rw [lw.1]; exact h1
  have hfS : (nth S2.cells a).fs.length = (nth Q.cells a).fs.length := by rw [(hW.sim.cell h0 h2').1, lw.2]
  have hfl := h.good.shp.fl _ (nth_mem h0 h1)
  have all := both_empties hW h0 h2'
  have step : ∀ j : Nat, j < (nth Q.cells a).fs.length → EPre (emptiesR S2 a j) a j ∧ QBnd (emptiesQ Q2 a j) ∧ QTo (emptiesQ Q2 a j) a j := by
    intro j hj
    obtain ⟨g, gp⟩ := all j (by rw [lw.2]; omega)
    obtain ⟨l1, l2⟩ := emptiesQ_lens (S := Q2) (a := a) h0 h2' j
    have a1 : a < (emptiesQ Q2 a j).cells.length := by rw [l1]; exact h2'
    have f1 : (j : Int) < (nth (emptiesQ Q2 a j).cells a).fs.length := by rw [l2, lw.2]; omega
    have hp' : phi (emptiesQ Q2 a j) < 2 ^ 38 := by omega
    have qto := g.good.toIn h0 a1 (f := (j : Int)) (by omega) f1
    refine ⟨⟨by rw [g.sim.len]; exact a1, by rw [(g.sim.cell h0 a1).1]; omega, ?_, g.sim.bnd g.good hA hp'⟩, g.good.qbnd hA hp', qto⟩
    unfold ToIn
    rw [(g.sim.cell h0 a1).1, g.sim.len]
    exact qto
  have last := all (nth Q.cells a).fs.length (by rw [lw.2]; exact Nat.le_refl _)
  refine ⟨by rw [hfS]; exact last.1, by omega, fun j hj => ?_, fun j hj => (step j hj).2⟩
  rw [(h.sim.cell h0 h1).1] at hj
  exact (step j hj).1
theorem both_next {A : Int} (hA : A ≤ 2 ^ 40) : ∀ (n : Nat) {S : Hp} {Q : Rp}, Both A S Q → phi Q < n → phi Q < 2 ^ 38 →
    SafeN n S ∧ SafeQ n Q ∧ (nextR n S).2 = (nextQ n Q).2 ∧ Both A (nextR n S).1 (nextQ n Q).1 ∧ phi (nextQ n Q).1 ≤ phi Q ∧
    ((nextQ n Q).2.2 = true → phi (nextQ n Q).1 + 3 ≤ phi Q ∧ 0 ≤ (nextQ n Q).2.1 ∧ (nextQ n Q).2.1 < (nextQ n Q).1.cells.length ∧ (nth (nextQ n Q).1.cells (nextQ n Q).2.1).e = false ∧ (nth (nextQ n Q).1.cells (nextQ n Q).2.1).n ≠ 0)
  | 0, S, Q, _, h, _ => absurd h (by omega)
  | n + 1, S, Q, h, hn, hp => by
    have hSn := h.sim.notes
    cases hq : Q.notes with
    | nil =>
      rw [hq] at hSn
      simp only [SafeN, SafeQ, nextR, nextQ, hq, hSn]
      exact ⟨trivial, trivial, trivial, h, Nat.le_refl _, fun e => by cases e⟩
    | cons a r =>
      rw [hq] at hSn
      obtain ⟨a0, a1⟩ := h.good.notes a (by rw [hq]; exact List.mem_cons_self)
      obtain ⟨b1, b2⟩ := h.sim.at_ a a0 a1
      have hcl := h.sim.cell a0 a1
      have gn := h.good.n _ (nth_mem a0 a1)
      have aS : a < S.cells.length := by rw [h.sim.len]; exact a1
      have hct := h.good.counted a0 a1
      have bndS := h.sim.bnd h.good hA hp
      have fits : Fits S a := ⟨a0, aS, by rw [h.sim.len]; have := h.good.shp.len; omega, fun c hc => by
        obtain ⟨i, hi, e⟩ := mem_nth hc
        rw [h.sim.len] at hi
        have := (h.sim.cell (i := (i : Int)) (by omega) (by omega)).1
        rw [← e, this]
        have := h.good.shp.fl _ (nth_mem (l := Q.cells) (i := (i : Int)) (by omega) (by omega))
        omega, bndS, by
          rw [b2]
          have : 0 ≤ age (nth Q.cells a) := by unfold age; split <;> omega
          omega⟩
      have fitq : FitsQ Q a := ⟨a0, a1, h.good.qbnd hA hp⟩
      obtain ⟨ht, htp⟩ := both_take h hq
      have cond : (0 < (nth S.cells a).n ∨ (nth S.cells a).e = true) ↔ ((nth Q.cells a).e = true ∨ 0 < countedR Q a) := by
        rw [hcl.2.2.2.1, hcl.2.2.2.2, hct]; exact Or.comm
      have cond2 : ((nth S.cells a).w = true ∧ (nth S.cells a).t = false) ↔ ((nth Q.cells a).w = true ∧ (nth Q.cells a).t = false) := by rw [hcl.2.1, hcl.2.2.1]
      simp only [SafeN, SafeQ, nextR, nextQ, hq, hSn]
      by_cases c1 : (nth Q.cells a).e = true ∨ 0 < countedR Q a
      · have c1' := cond.2 c1
        simp only [if_pos c1, if_pos c1']
        obtain ⟨i1, i2, i3, i4, i5, i6⟩ := both_next hA n ht (by omega) (by omega)
        exact ⟨⟨fits, i1⟩, ⟨fitq, i2⟩, i3, i4, by omega, fun e => by obtain ⟨j1, j2⟩ := i6 e; exact ⟨by omega, j2⟩⟩
      · have c1' := mt cond.1 c1
        simp only [if_neg c1, if_neg c1']
        have he : (nth Q.cells a).e = false := by
          cases e : (nth Q.cells a).e with
          | false => rfl
          | true => exact absurd (.inl e) c1
        have hz : (nth Q.cells a).n = 0 ∧ refs Q.cells a = 0 := by
          have : ¬ 0 < countedR Q a := fun e => c1 (.inr e)
          rw [hct] at this
          omega
        by_cases c2 : (nth Q.cells a).w = true ∧ (nth Q.cells a).t = false
        · have c2' := cond2.2 c2
          simp only [if_pos c2, if_pos c2']
          obtain ⟨k1, k2⟩ := h.ro.set a0 aS (v := rget S.roots a + 1) (by rw [b2]; omega)
          have hl : life (nth Q.cells a) = 11 := by simp [life, he, c2.2]
          obtain ⟨c, hc⟩ : ∃ c : Cel, c = { nth Q.cells a with t := true, n := (nth Q.cells a).n + 1 } := ⟨_, rfl⟩
          have hlc : life c = 9 := by rw [hc]; simp [life, he]
          have hcn : c.n = (nth Q.cells a).n + 1 := by rw [hc]
          have hce : c.e = false := by rw [hc]; exact he
          have hage : age c = 0 := by rw [hc]; simp [age]
          have hage2 : age (nth Q.cells a) = 1 := by simp [age, c2.2]
          have hB := both_cell ht a0 a1 (c := c) (by rw [hc]) (by rw [hcn, hage]; omega) (fun e => by rw [hce] at e; cases e) (rs := rset S.roots a (rget S.roots a + 1)) (fun j => by rw [rget_rset, b2, hcn]) k1 k2
          have hph := phi_set (Q := { Q with notes := r }) a0 a1 c
          rw [show (nth ({ Q with notes := r } : Rp).cells a) = nth Q.cells a from rfl, hl, hlc] at hph
          rw [← hc]
          refine ⟨⟨fits, trivial⟩, ⟨fitq, trivial⟩, trivial, ?_, by omega, fun _ => ⟨by omega, a0, by rw [qset_len]; exact a1, ?_⟩⟩
          · have e : rootR (setC { S with notes := r } a { nth S.cells a with t := true }) a = { { S with notes := r } with cells := S.cells.set a.toNat { c with n := c.n + refs Q.cells a }, roots := rset S.roots a (rget S.roots a + 1) } := by
              unfold rootR
              simp only
              rw [setC_nth (S := { S with notes := r }) a0 aS a0, if_pos rfl]
              simp only [setC, List.set_set, Hp.mk.injEq, and_true]
              rw [b1, hc]
              congr 2
              simp only
              omega
            show Both A (rootR (setC { S with notes := r } a { nth S.cells a with t := true }) a) _
            rw [e]; exact hB
          · rw [qset_nth (S := { Q with notes := r }) a0 a1 a0, if_pos rfl]; exact ⟨hce, by rw [hcn]; omega⟩
        · have c2' := mt cond2.1 c2
          simp only [if_neg c2, if_neg c2']
          obtain ⟨e1, e2, e3, e4⟩ := both_end ht a0 a1 he hz hA (by omega)
          obtain ⟨i1, i2, i3, i4, i5, i6⟩ := both_next hA n e1 (by omega) (by omega)
          exact ⟨⟨fits, e3, i1⟩, ⟨fitq, e4, i2⟩, i3, i4, by omega, fun e => by obtain ⟨j1, j2⟩ := i6 e; exact ⟨by omega, j2⟩⟩
theorem both_settle {A : Int} (hA : A ≤ 2 ^ 40) {n : Nat} : ∀ (m : Nat) {S : Hp} {Q : Rp}, Both A S Q → phi Q < m → phi Q < n → phi Q < 2 ^ 38 →
    SafeS m n S ∧ SafeT m n Q ∧ (settleR m n S).2 = (settleQ m n Q).2 ∧ Both A (settleR m n S).1 (settleQ m n Q).1 ∧ phi (settleQ m n Q).1 ≤ phi Q
  | 0, S, Q, _, h, _, _ => absurd h (by omega)
  | m + 1, S, Q, h, hm, hn, hp => by
    obtain ⟨i1, i2, i3, i4, i5, i6⟩ := both_next hA n h hn hp
    simp only [SafeS, SafeT, settleR, settleQ]
    rw [i3]
    by_cases ht : (nextQ n Q).2.2 = true
    · obtain ⟨j1, j2, j3, j4, j5⟩ := i6 ht
      simp only [ht]
      obtain ⟨g, gp⟩ := both_unroot i4 j2 j3 j5
      have hd : dropQ (nextQ n Q).1 (nextQ n Q).2.1 = (noteQ (qset (nextQ n Q).1 (nextQ n Q).2.1 { nth (nextQ n Q).1.cells (nextQ n Q).2.1 with n := (nth (nextQ n Q).1.cells (nextQ n Q).2.1).n - 1 }) (nextQ n Q).2.1, 0) := by
        unfold dropQ
        have : hasR (nextQ n Q).1.hp (nextQ n Q).2.1 true = 0 := by
          unfold hasR
          simp only [Rp.hp_cells]
          rw [if_neg (by omega), if_neg (by rw [j4]; simp)]
        rw [this, if_neg (by simp), if_neg j5]
      rw [hd]
      obtain ⟨k1, k2, k3, k4, k5⟩ := both_settle (n := n) hA m g (by omega) (by omega) (by omega)
      have bnd := i4.sim.bnd i4.good hA (by omega)
      have aS : (nextQ n Q).2.1 < (nextR n S).1.cells.length := by rw [i4.sim.len]; exact j3
      have gn := i4.good.n _ (nth_mem j2 j3)
      have age0 : 0 ≤ age (nth (nextQ n Q).1.cells (nextQ n Q).2.1) := by unfold age; split <;> omega
      have fits : Fits (nextR n S).1 (nextQ n Q).2.1 := ⟨j2, aS, by rw [i4.sim.len]; have := i4.good.shp.len; omega, fun c hc => by
        obtain ⟨i, hi, e⟩ := mem_nth hc
        rw [i4.sim.len] at hi
        have := (i4.sim.cell (i := (i : Int)) (by omega) (by omega)).1
        rw [← e, this]
        have := i4.good.shp.fl _ (nth_mem (l := (nextQ n Q).1.cells) (i := (i : Int)) (by omega) (by omega))
        omega, bnd, by
          rw [(i4.sim.at_ _ j2 j3).2]
          omega⟩
      refine ⟨⟨i1, fun _ => ⟨fits, k1⟩⟩, ⟨i2, fun _ => ⟨i4.good.qbnd hA (by omega), fun c hc => (i4.good.n c hc).1, k2⟩⟩, ?_, ?_, ?_⟩
      · simp [k3]
      · simpa using k4
      · rw [if_neg (by simp)]; exact Nat.le_trans k5 (Nat.le_trans gp (by omega))
    · have ht' : (nextQ n Q).2.2 = false := by simpa using ht
      simp only [ht']
      exact ⟨⟨i1, fun e => by cases e⟩, ⟨i2, fun e => by cases e⟩, by simp, by simpa using i4, by simpa using i5⟩
end Go.Am
