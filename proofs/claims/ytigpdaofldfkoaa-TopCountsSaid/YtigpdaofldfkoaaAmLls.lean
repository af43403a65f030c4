/- A list of lists that grows, of whatever cells. -/
import Derived.Test.YtigpdaofldfkoaaAmLibs
set_option linter.unusedVariables false
set_option linter.unusedSimpArgs false
namespace Go.Am
section
variable {β : Type} {enc : β → AV}
def Lls (enc : β → AV) (n : Nat) (K : AHeap) (v : AV) (ls : List (List β)) : Prop :=
  ∃ (vs : List AV) (f : Option Nat), Own encA 1 K v vs f ∧ (∀ g, f = some g → n ≤ g) ∧ vs.length = ls.length ∧ ∀ i : Nat, i < ls.length → Rd (fun g => f = some g) enc 1 K (encA (nth vs (i : Int))) (nth ls (i : Int))
theorem Lls.nil {n z : Nat} {K : AHeap} : Lls enc n K (.slc none z 0 none) [] := ⟨[], none, Own.nil (by simp), by simp, rfl, fun i hi => by simp at hi⟩
theorem Rd.moreL {D : Nat → Prop} {H : AHeap} {sz : Nat} (hw : WF H) {v : AV} {l : List β} (h : Rd D enc sz H v l) : Rd (fun g => D g ∨ H.next ≤ g) enc sz H v l :=
  ⟨h.1, fun b off sv n c f cs e hr hd => by
    rcases hd with hd | hd
    · exact h.2 b off sv n c f cs e hr hd
    · have := hw.row_fam hr; omega⟩
theorem Lls.fr {n : Nat} {K K' : AHeap} {v : AV} {ls : List (List β)} (h : Lls enc n K v ls) (hw : WF K) (k : Fr K K') : Lls enc n K' v ls := by
  obtain ⟨vs, f, h1, h2, h3, h4⟩ := h
  refine ⟨vs, f, h1.fr hw k, h2, h3, fun i hi => (h4 i hi).keeps hw (k.keeps.mono fun g hg => .inr hg)⟩
theorem encA_cellL {v : AV} (h : v.cell = true) : encA v = v := by unfold encA; rw [if_pos h]
theorem nth_snocL {α : Type} [Inhabited α] {l : List α} {a : α} {i : Nat} : nth (l ++ [a]) (i : Int) = if i < l.length then nth l (i : Int) else if i = l.length then a else default := by
  simp only [nth, List.getD, Int.toNat_natCast]
  by_cases h : i < l.length
  · rw [if_pos h, List.getElem?_append_left h]
  · rw [if_neg h, List.getElem?_append_right (by omega)]
    by_cases h2 : i = l.length
    · subst h2; simp
    · rw [if_neg h2, List.getElem?_eq_none (by simp; omega)]; rfl
/-- One list more, that was made since. -/
theorem Lls.push {K0 K1 K : AHeap} (f0 : Fr K0 K1) (f1 : Fr K1 K) {v a : AV} {ls : List (List β)} {m : List β} (h : Lls enc K0.next K1 v ls) (ha : Made enc 1 K1.next K a m) (hb : (ls.length + 1) * 24 ≤ 2 ^ 46) :
    ∃ v' K', wsem0 (.app 1 24) [v, .slc (some (K.next, 0)) 1 1 (some 1)] (K.new [a]) = some (v', K') ∧ Fr K0 K' ∧ Lls enc K0.next K' v' (ls ++ [m]) := by
  obtain ⟨vs, f, h1, h2, h3, h4⟩ := h
  have hf1 : ∀ g, f = some g → g < K1.next := by
    intro g hg
    subst hg
    exact h1.2.lt f0.wf
  have h1 := h1.fr f0.wf f1
  have h4 := fun (i : Nat) (hi : i < ls.length) => (h4 i hi).keeps f0.wf (f1.keeps.mono fun g hg => .inr hg)
  have hac : encA a = a := encA_cellL ha.sl.form.1
  obtain ⟨v', K', f', q1, q2, q3, q4, q5⟩ := push1 (bytes := 24) f1.wf h1 a (by rw [h3]; exact hb) (by omega)
  rw [hac] at q1
  have up : ∀ {x : AV} {l : List β}, Rd (fun g => f = some g) enc 1 K x l → Rd (fun g => f' = some g) enc 1 K' x l := by
    intro x l hr
    have := (hr.moreL f1.wf).keepsD (q4.mono fun g hg => .inl hg)
    exact this.mono fun g hg => q5 g hg
  refine ⟨v', K', q1, (f0.trans f1).step q2 q4 h2, vs ++ [a], f', q3, ?_, by simp [h3], ?_⟩
  · intro g hg
    rcases q5 g hg with hg | hg
    · exact h2 g hg
    · exact Nat.le_trans (f0.trans f1).next hg
  · intro i hi
    rw [nth_snocL, nth_snocL, h3]
    by_cases hl : i < ls.length
    · rw [if_pos hl, if_pos hl]; exact up (h4 i hl)
    · have : i = ls.length := by simp at hi; omega
      rw [if_neg hl, if_pos this, if_neg hl, if_pos this, hac]
      exact up (ha.rd hf1)
/-- A list out of it. -/
theorem Lls.get {n : Nat} {K : AHeap} {v : AV} {ls : List (List β)} (h : Lls enc n K v ls) {i : Nat} (hi : i < ls.length) :
    ∃ u, psem (.ia 1) [v, .int .i64 i] = some (elt v 1 i) ∧ rsem (.ld 1 false) [elt v 1 (i : Int)] K = some u ∧ Sl enc 1 K u (nth ls (i : Int)) ∧ psem .len [v] = some (.int .i64 ls.length) := by
  obtain ⟨vs, f, h1, h2, h3, h4⟩ := h
  exact ⟨_, h1.1.ia (by omega) (by omega), h1.1.ld (by omega) (by omega), (h4 i hi).1, by rw [h1.1.len, h3]⟩
end
end Go.Am
