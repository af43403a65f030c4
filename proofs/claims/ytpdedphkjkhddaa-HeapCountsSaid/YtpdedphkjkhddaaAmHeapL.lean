/- The plain law of the heap: what the program's heap does, the reference's heap does. -/
import Derived.Test.YtpdedphkjkhddaaAmRefF
set_option linter.unusedVariables false
set_option linter.unusedSimpArgs false
namespace Go.Am

/-! ### Sums over cells -/
def wsum (w : Cel → Nat) (cs : List Cel) : Nat := (cs.map w).sum
theorem wsum_set (w : Cel → Nat) {cs : List Cel} {i : Int} (h0 : 0 ≤ i) (h1 : i < cs.length) (c : Cel) : wsum w (cs.set i.toNat c) + w (nth cs i) = wsum w cs + w c := by
  have hi : i.toNat < cs.length := by omega
  have hn : nth cs i = cs[i.toNat] := by simp [nth, List.getElem?_eq_getElem hi]
  rw [List.set_eq_take_append_cons_drop, if_pos hi]
  have e : cs = cs.take i.toNat ++ cs[i.toNat] :: cs.drop (i.toNat + 1) := by rw [← List.drop_eq_getElem_cons hi, List.take_append_drop]
  have e2 : wsum w cs = wsum w (cs.take i.toNat ++ cs[i.toNat] :: cs.drop (i.toNat + 1)) := by rw [← e]
  rw [e2, hn]
  simp only [wsum, List.map_append, List.map_cons, List.sum_append, List.sum_cons]
  omega
theorem refs_wsum (cs : List Cel) (a : Int) : refs cs a = wsum (fun c => cnt c.fs a) cs := rfl
theorem refs_set {cs : List Cel} {i : Int} (h0 : 0 ≤ i) (h1 : i < cs.length) (c : Cel) (a : Int) : refs (cs.set i.toNat c) a + cnt (nth cs i).fs a = refs cs a + cnt c.fs a := wsum_set _ h0 h1 c
def one_ (b : Bool) : Nat := if b then 1 else 0
theorem cnt_set {fs : List Fld} {f : Int} (h0 : 0 ≤ f) (h1 : f < fs.length) (y : Fld) (a : Int) : cnt (fs.set f.toNat y) a + one_ (strongTo a (nth fs f)) = cnt fs a + one_ (strongTo a y) := by
  have hi : f.toNat < fs.length := by omega
  have hn : nth fs f = fs[f.toNat] := by simp [nth, List.getElem?_eq_getElem hi]
  rw [List.set_eq_take_append_cons_drop, if_pos hi]
  have e : fs = fs.take f.toNat ++ fs[f.toNat] :: fs.drop (f.toNat + 1) := by rw [← List.drop_eq_getElem_cons hi, List.take_append_drop]
  have e2 : cnt fs a = cnt (fs.take f.toNat ++ fs[f.toNat] :: fs.drop (f.toNat + 1)) a := by rw [← e]
  rw [e2, hn]
  simp only [cnt, List.countP_append, List.countP_cons, one_]
  omega
theorem cnt_pos {fs : List Fld} {f : Int} (h0 : 0 ≤ f) (h1 : f < fs.length) {a : Int} (h : strongTo a (nth fs f) = true) : 0 < cnt fs a := by
  unfold cnt
  rw [List.countP_pos_iff]
  exact ⟨_, nth_mem h0 h1, h⟩
theorem refs_ge {cs : List Cel} {i : Int} (h0 : 0 ≤ i) (h1 : i < cs.length) (a : Int) : cnt (nth cs i).fs a ≤ refs cs a := by
  have := refs_set h0 h1 { nth cs i with fs := [] } a
  simp [cnt] at this
  unfold cnt
  omega
theorem refs_pos {cs : List Cel} {i : Int} (h0 : 0 ≤ i) (h1 : i < cs.length) {f : Int} (f0 : 0 ≤ f) (f1 : f < (nth cs i).fs.length) {a : Int} (h : strongTo a (nth (nth cs i).fs f) = true) : 0 < refs cs a :=
  Nat.lt_of_lt_of_le (cnt_pos f0 f1 h) (refs_ge h0 h1 a)

theorem mem_nth {α : Type} [Inhabited α] {l : List α} {x : α} (h : x ∈ l) : ∃ i : Nat, i < l.length ∧ nth l (i : Int) = x := by
  obtain ⟨i, hi, e⟩ := List.getElem_of_mem h
  exact ⟨i, hi, by simp [nth, List.getElem?_eq_getElem hi, e]⟩

/-! ### What always holds of the reference's heap -/
def age (c : Cel) : Int := if c.t = true then 0 else 1
structure Sane (A : Int) (Q : Rp) : Prop where
  shp : Shp Q.cells
  to : ∀ c ∈ Q.cells, ∀ x ∈ c.fs, x.is = true → 0 ≤ x.to ∧ x.to < Q.cells.length
  notes : ∀ a ∈ Q.notes, 0 ≤ a ∧ a < Q.cells.length
  n : ∀ c ∈ Q.cells, 0 ≤ c.n ∧ c.n + age c ≤ A
  en : ∀ i : Int, 0 ≤ i → i < Q.cells.length → (nth Q.cells i).e = true → (nth Q.cells i).n = 0 ∧ refs Q.cells i = 0

def life (c : Cel) : Nat := (if c.e then 0 else 9) + (if c.t then 0 else 2)
def phi (Q : Rp) : Nat := Q.notes.length + wsum life Q.cells

/-- How the program's heap stands to the reference's. -/
structure Sim (S : Hp) (Q : Rp) : Prop where
  len : S.cells.length = Q.cells.length
  notes : S.notes = Q.notes
  at_ : ∀ i : Int, 0 ≤ i → i < Q.cells.length → nth S.cells i = { nth Q.cells i with n := (nth Q.cells i).n + refs Q.cells i } ∧ rget S.roots i = (nth Q.cells i).n

theorem Sim.cell {S : Hp} {Q : Rp} (h : Sim S Q) {i : Int} (h0 : 0 ≤ i) (h1 : i < Q.cells.length) : (nth S.cells i).fs = (nth Q.cells i).fs ∧ (nth S.cells i).w = (nth Q.cells i).w ∧ (nth S.cells i).t = (nth Q.cells i).t ∧ (nth S.cells i).e = (nth Q.cells i).e ∧ (nth S.cells i).n = (nth Q.cells i).n + refs Q.cells i := by
  rw [(h.at_ i h0 h1).1]; exact ⟨rfl, rfl, rfl, rfl, rfl⟩

theorem Sane.counted {A : Int} {Q : Rp} (g : Sane A Q) {i : Int} (h0 : 0 ≤ i) (h1 : i < Q.cells.length) : countedR Q i = (nth Q.cells i).n + refs Q.cells i := by
  unfold countedR
  split
  · rename_i he
    obtain ⟨e1, e2⟩ := g.en i h0 h1 he
    rw [e1, e2]; rfl
  · rfl

/-- Two heaps' cells of which the same can be seen. -/
structure Look (S S' : Hp) : Prop where
  len : S.cells.length = S'.cells.length
  at_ : ∀ i : Int, 0 ≤ i → i < S'.cells.length → (nth S.cells i).fs = (nth S'.cells i).fs ∧ (nth S.cells i).t = (nth S'.cells i).t ∧ (nth S.cells i).e = (nth S'.cells i).e

theorem Look.has {S S' : Hp} (h : Look S S') (i : Int) (live : Bool) : hasR S i live = hasR S' i live := by
  unfold hasR
  rw [h.len]
  by_cases hc : i < 0 ∨ (S'.cells.length : Int) ≤ i
  · rw [if_pos hc, if_pos hc]
  · rw [if_neg hc, if_neg hc, (h.at_ i (by omega) (by omega)).2.2]
theorem Look.hasField {S S' : Hp} (h : Look S S') (i f : Int) : hasFieldR S i f = hasFieldR S' i f := by
  unfold hasFieldR
  rw [h.has]
  by_cases hz : hasR S' i true ≠ 0
  · rw [if_pos hz, if_pos hz]
  · obtain ⟨q1, q2, _⟩ := hasR_in (Decidable.not_not.1 hz)
    rw [if_neg hz, if_neg hz, (h.at_ i q1 q2).1]
theorem Look.get {S S' : Hp} (h : Look S S') (i f : Int) : getR S i f = getR S' i f := by
  unfold getR
  rw [h.hasField]
  by_cases hz : hasFieldR S' i f ≠ 0
  · rw [if_pos hz, if_pos hz]
  · obtain ⟨q1, q2, _⟩ := hasFieldR_in (Decidable.not_not.1 hz)
    rw [if_neg hz, if_neg hz, (h.at_ i q1 q2).1]
theorem Look.state {S S' : Hp} (h : Look S S') (i : Int) : stateR S i = stateR S' i := by
  unfold stateR
  rw [h.has]
  by_cases hz : hasR S' i false ≠ 0
  · rw [if_pos hz, if_pos hz]
  · obtain ⟨q1, q2, _⟩ := hasR_in (Decidable.not_not.1 hz)
    obtain ⟨_, e3, e4⟩ := h.at_ i q1 q2
    rw [if_neg hz, if_neg hz, e3, e4]
theorem Sim.look {S : Hp} {Q : Rp} (h : Sim S Q) : Look S Q.hp := ⟨h.len, fun i i0 i1 => by obtain ⟨e1, _, e3, e4, _⟩ := h.cell i0 i1; exact ⟨e1, e3, e4⟩⟩
theorem Sim.has {S : Hp} {Q : Rp} (h : Sim S Q) (i : Int) (live : Bool) : hasR S i live = hasR Q.hp i live := h.look.has i live
theorem Sim.hasField {S : Hp} {Q : Rp} (h : Sim S Q) (i f : Int) : hasFieldR S i f = hasFieldR Q.hp i f := h.look.hasField i f
theorem Sim.get {S : Hp} {Q : Rp} (h : Sim S Q) (i f : Int) : getR S i f = getR Q.hp i f := h.look.get i f
theorem Sim.state {S : Hp} {Q : Rp} (h : Sim S Q) (i : Int) : stateR S i = stateR Q.hp i := h.look.state i
theorem Sim.count {A : Int} {S : Hp} {Q : Rp} (h : Sim S Q) (g : Sane A Q) (i : Int) : countR S i = countQ Q i := by
  unfold countR countQ
  rw [h.has]
  by_cases hz : hasR Q.hp i false ≠ 0
  · rw [if_pos hz, if_pos hz]
  · obtain ⟨q1, q2, _⟩ := hasR_in (Decidable.not_not.1 hz)
    simp only [Rp.hp_cells] at q2
    rw [if_neg hz, if_neg hz, (h.cell q1 q2).2.2.2.2, g.counted q1 q2]

/-! ### Bounds -/
theorem Sane.qbnd {A : Int} {Q : Rp} (g : Sane A Q) (hA : A ≤ 2 ^ 40) (hp : phi Q < 2 ^ 38) : QBnd Q :=
  ⟨g.shp, fun c hc => by have := g.n c hc; unfold age at this; split at this <;> omega, by unfold phi at hp; omega⟩
theorem Sane.refs_lt {A : Int} {Q : Rp} (g : Sane A Q) (i : Int) : refs Q.cells i ≤ 800 := by have := refs_le (i := i) g.shp.fl; have := g.shp.len; omega
theorem Sim.bnd {A : Int} {S : Hp} {Q : Rp} (h : Sim S Q) (g : Sane A Q) (hA : A ≤ 2 ^ 40) (hp : phi Q < 2 ^ 38) : Bnd S := by
  refine ⟨fun c hc => ?_, by rw [h.notes]; unfold phi at hp; omega⟩
  obtain ⟨i, hi, e⟩ := mem_nth hc
  rw [h.len] at hi
  have e1 := (h.cell (i := (i : Int)) (by omega) (by omega)).2.2.2.2
  have e2 := g.n _ (nth_mem (l := Q.cells) (i := (i : Int)) (by omega) (by omega))
  have e3 := g.refs_lt (i : Int)
  rw [e] at e1
  have : 0 ≤ age (nth Q.cells (i : Int)) := by unfold age; split <;> omega
  omega

theorem Sane.toIn {A : Int} {Q : Rp} (g : Sane A Q) {i f : Int} (h0 : 0 ≤ i) (h1 : i < Q.cells.length) (f0 : 0 ≤ f) (f1 : f < (nth Q.cells i).fs.length) : QTo Q i f :=
  fun h _ => g.to _ (nth_mem h0 h1) _ (nth_mem f0 f1) h

/-! ### A field is made empty -/
theorem zero_strong (a : Int) : strongTo a ⟨false, false, 0⟩ = false := rfl

/-- A cell's fields are others: what is known then. -/
theorem sim_setFs {A : Int} {S : Hp} {Q : Rp} (h : Sim S Q) (g : Sane A Q) {i f : Int} (h0 : 0 ≤ i) (h1 : i < Q.cells.length) (f0 : 0 ≤ f) (f1 : f < (nth Q.cells i).fs.length) (y : Fld) (a : Int) :
    (refs (qset Q i { nth Q.cells i with fs := (nth Q.cells i).fs.set f.toNat y }).cells a : Int) + one_ (strongTo a (nth (nth Q.cells i).fs f)) = refs Q.cells a + one_ (strongTo a y) := by
  have e1 := refs_set h0 h1 { nth Q.cells i with fs := (nth Q.cells i).fs.set f.toNat y } a
  have e2 := cnt_set f0 f1 y a
  simp only [qset] at e1 ⊢
  omega

theorem phi_set {Q : Rp} {i : Int} (h0 : 0 ≤ i) (h1 : i < Q.cells.length) (c : Cel) : phi (qset Q i c) + life (nth Q.cells i) = phi Q + life c := by
  have := wsum_set life h0 h1 c
  unfold phi
  simp only [qset]
  omega

theorem strong_eq {a : Int} {x : Fld} : strongTo a x = true ↔ x.is = true ∧ x.weak = false ∧ x.to = a := by
  simp [strongTo, and_assoc]

theorem Sane.setFs {A : Int} {Q : Rp} (g : Sane A Q) {i : Int} (h0 : 0 ≤ i) (h1 : i < Q.cells.length) {fs : List Fld} (hl : fs.length ≤ 8) (hto : ∀ x ∈ fs, x.is = true → 0 ≤ x.to ∧ x.to < Q.cells.length)
    (hr : ∀ a : Int, 0 ≤ a → a < Q.cells.length → (nth Q.cells a).e = true → refs (qset Q i { nth Q.cells i with fs := fs }).cells a = 0) : Sane A (qset Q i { nth Q.cells i with fs := fs }) := by
  refine ⟨g.shp.set hl, ?_, by rw [qset_len]; exact g.notes, ?_, ?_⟩
  · rw [qset_len]; exact mem_set_of g.to hto
  · exact mem_set_of g.n (g.n (nth Q.cells i) (nth_mem h0 h1))
  · intro a a0 a1 he
    rw [qset_len] at a1
    rw [qset_nth h0 h1 a0] at he ⊢
    have he' : (nth Q.cells a).e = true := by
      split at he
      · rename_i e; subst e; exact he
      · exact he
    refine ⟨?_, hr a a0 a1 he'⟩
    have := (g.en a a0 a1 he').1
    split
    · rename_i e; subst e; exact this
    · exact this

theorem sim_empty {A : Int} {S : Hp} {Q : Rp} (h : Sim S Q) (g : Sane A Q) {i f : Int} (h0 : 0 ≤ i) (h1 : i < Q.cells.length) (f0 : 0 ≤ f) (f1 : f < (nth Q.cells i).fs.length) :
    Sim (emptyR S i f) (emptyQ Q i f) ∧ Sane A (emptyQ Q i f) ∧ phi (emptyQ Q i f) ≤ phi Q + 1 := by
  obtain ⟨x, hx⟩ : ∃ x, nth (nth Q.cells i).fs f = x := ⟨_, rfl⟩
  have hc := h.cell h0 h1
  have hS1 : i < S.cells.length := by rw [h.len]; exact h1
  have hxS : nth (nth S.cells i).fs f = x := by rw [hc.1]; exact hx
  have hto := g.to _ (nth_mem h0 h1) _ (nth_mem f0 f1)
  rw [hx] at hto
  obtain ⟨Q1, hQ1⟩ : ∃ Q1, qset Q i { nth Q.cells i with fs := (nth Q.cells i).fs.set f.toNat ⟨false, false, 0⟩ } = Q1 := ⟨_, rfl⟩
  have hl1 : Q1.cells.length = Q.cells.length := by rw [← hQ1]; simp
  have refsE : ∀ a : Int, (refs Q1.cells a : Int) + one_ (strongTo a x) = refs Q.cells a := by
    intro a
    have := sim_setFs h g h0 h1 f0 f1 ⟨false, false, 0⟩ a
    rw [hQ1, hx, zero_strong] at this
    simpa [one_] using this
  have cellQ1 : ∀ a : Int, 0 ≤ a → nth Q1.cells a = if i = a then { nth Q.cells i with fs := (nth Q.cells i).fs.set f.toNat ⟨false, false, 0⟩ } else nth Q.cells a := fun a ha => by rw [← hQ1]; exact qset_nth h0 h1 ha
  have g1 : Sane A Q1 := by
    rw [← hQ1]
    refine g.setFs h0 h1 (by simpa using g.shp.fl _ (nth_mem h0 h1)) (fun y hy => ?_) (fun a a0 a1 he => ?_)
    · rcases List.mem_or_eq_of_mem_set hy with hy | rfl
      · exact g.to _ (nth_mem h0 h1) y hy
      · intro e; cases e
    · have e1 := refsE a
      have e2 := (g.en a a0 a1 he).2
      rw [hQ1]
      omega
  have ph1 : phi Q1 = phi Q := by
    have := phi_set h0 h1 { nth Q.cells i with fs := (nth Q.cells i).fs.set f.toNat ⟨false, false, 0⟩ }
    rw [hQ1] at this
    simp only [life] at this
    omega
  have hQ : emptyQ Q i f = if x.is = true ∧ x.weak = false then noteQ Q1 x.to else Q1 := by unfold emptyQ; simp only [hx, hQ1]
  obtain ⟨S1, hSS⟩ : ∃ S1, setC S i { nth S.cells i with fs := (nth S.cells i).fs.set f.toNat ⟨false, false, 0⟩ } = S1 := ⟨_, rfl⟩
  have hS : emptyR S i f = if x.is = true ∧ x.weak = false then lessR S1 x.to else S1 := by unfold emptyR; simp only [hxS, hSS]
  have cellS1 : ∀ a : Int, 0 ≤ a → nth S1.cells a = if i = a then { nth S.cells i with fs := (nth S.cells i).fs.set f.toNat ⟨false, false, 0⟩ } else nth S.cells a := fun a ha => by rw [← hSS]; exact setC_nth h0 hS1 ha
  have hlS : S1.cells.length = S.cells.length := by rw [← hSS]; simp
  have hrS : S1.roots = S.roots := by rw [← hSS]; rfl
  have hnS : S1.notes = S.notes := by rw [← hSS]; rfl
  -- the cells of S1 beside those of Q1, but for the counts
  have base : ∀ a : Int, 0 ≤ a → a < Q.cells.length → nth S1.cells a = { nth Q1.cells a with n := (nth Q1.cells a).n + refs Q1.cells a + one_ (strongTo a x) } ∧ rget S1.roots a = (nth Q1.cells a).n := by
    intro a a0 a1
    obtain ⟨b1, b2⟩ := h.at_ a a0 a1
    have hn : (nth Q1.cells a).n = (nth Q.cells a).n := by
      rw [cellQ1 a a0]; split
      · rename_i e; subst e; rfl
      · rfl
    refine ⟨?_, by rw [hrS, b2, hn]⟩
    rw [cellS1 a a0, cellQ1 a a0]
    have e1 := refsE a
    by_cases e : i = a
    · subst e
      rw [if_pos rfl, if_pos rfl, b1]
      simp only [Cel.mk.injEq, true_and]
      omega
    · rw [if_neg e, if_neg e, b1]
      simp only [Cel.mk.injEq, true_and]
      omega
  rw [hQ, hS]
  by_cases hst : x.is = true ∧ x.weak = false
  · rw [if_pos hst, if_pos hst]
    obtain ⟨t0, t1⟩ := hto hst.1
    have hsx : strongTo x.to x = true := strong_eq.2 ⟨hst.1, hst.2, rfl⟩
    have hoth : ∀ a, a ≠ x.to → strongTo a x = false := fun a ha => by
      cases hb : strongTo a x with
      | false => rfl
      | true => exact absurd (strong_eq.1 hb).2.2.symm ha
    have tS : x.to < S1.cells.length := by rw [hlS, h.len]; exact t1
    have tQ : x.to < Q1.cells.length := by rw [hl1]; exact t1
    have hcount := g1.counted t0 tQ
    have bt := base x.to t0 t1
    have hnn : (nth S1.cells x.to).n - 1 = countedR Q1 x.to := by
      rw [hcount, bt.1, hsx]; simp [one_]
    have hcQ : (noteQ Q1 x.to).cells = Q1.cells := by unfold noteQ; split <;> rfl
    refine ⟨⟨?_, ?_, ?_⟩, ?_, ?_⟩
    · rw [lessR_len, hcQ, hlS, h.len, hl1]
    · unfold lessR noteQ
      simp only [hnn]
      by_cases hz : countedR Q1 x.to = 0
      · rw [if_pos hz, if_pos hz]
        show S1.notes ++ [x.to] = Q1.notes ++ [x.to]
        rw [hnS, h.notes, ← hQ1]; rfl
      · rw [if_neg hz, if_neg hz]
        show S1.notes = Q1.notes
        rw [hnS, h.notes, ← hQ1]; rfl
    · intro a a0 a1
      rw [hcQ] at a1 ⊢
      have a1' : a < Q.cells.length := by rw [← hl1]; exact a1
      obtain ⟨b1, b2⟩ := base a a0 a1'
      rw [lessR_nth t0 tS a0]
      have hroots : (lessR S1 x.to).roots = S1.roots := by unfold lessR; simp only; split <;> rfl
      refine ⟨?_, by rw [hroots]; exact b2⟩
      by_cases e : x.to = a
      · subst e
        rw [if_pos rfl, b1, hsx]
        simp only [Cel.mk.injEq, true_and, one_]
        simp
      · rw [if_neg e, b1, hoth a (Ne.symm e)]
        simp [one_]
    · refine ⟨by rw [hcQ]; exact g1.shp, by rw [hcQ]; exact g1.to, ?_, by rw [hcQ]; exact g1.n, by rw [hcQ]; exact g1.en⟩
      rw [hcQ]
      intro a ha
      unfold noteQ at ha
      split at ha
      · simp only [List.mem_append, List.mem_singleton] at ha
        rcases ha with ha | rfl
        · exact g1.notes a ha
        · exact ⟨t0, tQ⟩
      · exact g1.notes a ha
    · rw [← ph1]
      unfold noteQ
      split
      · simp [phi]; omega
      · omega
  · rw [if_neg hst, if_neg hst]
    have hns : ∀ a, strongTo a x = false := fun a => by
      cases hb : strongTo a x with
      | false => rfl
      | true => exact absurd ⟨(strong_eq.1 hb).1, (strong_eq.1 hb).2.1⟩ hst
    refine ⟨⟨by rw [hlS, h.len, hl1], by rw [hnS, h.notes, ← hQ1]; rfl, fun a a0 a1 => ?_⟩, g1, by omega⟩
    have := base a a0 (by rw [← hl1]; exact a1)
    rw [hns a] at this
    simpa [one_] using this
end Go.Am
