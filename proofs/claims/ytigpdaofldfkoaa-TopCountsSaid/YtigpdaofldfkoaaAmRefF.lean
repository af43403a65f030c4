/- Contracts of the reference's heap: how the notes go on, Settle. -/
import Derived.Test.YtigpdaofldfkoaaAmRefsA
import Derived.Test.YtigpdaofldfkoaaAmHeapI
set_option linter.unusedVariables false
set_option linter.unusedSimpArgs false
namespace Go.Am
variable {T : Tab}
section
variable {k : Nat} {tg tg' : Tags} {H0 H H' : AHeap} {b : Nat} {S : Rp} {fb : Nat} {cv nv : AV} {fc fn : Option Nat} {xs : List (AV × Cel)} {ff : Nat → Option Nat}
/-! ### The notes go on -/
def nextQ : Nat → Rp → Rp × Int × Bool
  | 0, S => (S, 0, false)
  | n + 1, S =>
    match S.notes with
    | [] => (S, 0, false)
    | a :: r =>
      if (nth S.cells a).e = true ∨ 0 < countedR S a then nextQ n { S with notes := r }
      else if (nth S.cells a).w = true ∧ (nth S.cells a).t = false then (qset { S with notes := r } a { nth S.cells a with t := true, n := (nth S.cells a).n + 1 }, a, true)
      else nextQ n (endQ { S with notes := r } a)
structure FitsQ (S : Rp) (a : Int) : Prop where
  h0 : 0 ≤ a
  h1 : a < S.cells.length
  bnd : QBnd S
def SafeQ : Nat → Rp → Prop
  | 0, _ => False
  | n + 1, S =>
    match S.notes with
    | [] => True
    | a :: r =>
      FitsQ S a ∧
      (if (nth S.cells a).e = true ∨ 0 < countedR S a then SafeQ n { S with notes := r }
       else if (nth S.cells a).w = true ∧ (nth S.cells a).t = false then True
       else (∀ j, j < (nth S.cells a).fs.length → QBnd (emptiesQ (weakQ (qset { S with notes := r } a { nth S.cells a with e := true }) a) a j) ∧ QTo (emptiesQ (weakQ (qset { S with notes := r } a { nth S.cells a with e := true }) a) a j) a j) ∧ SafeQ n (endQ { S with notes := r } a))
theorem emptyQ_lens {S : Rp} {a f : Int} (h0 : 0 ≤ a) (h1 : a < S.cells.length) : (emptyQ S a f).cells.length = S.cells.length ∧ (nth (emptyQ S a f).cells a).fs.length = (nth S.cells a).fs.length := by
  rw [emptyQ_cells, List.length_set, nth_set h0 h1 h0, if_pos rfl]
  simp
theorem emptiesQ_lens {S : Rp} {a : Int} (h0 : 0 ≤ a) (h1 : a < S.cells.length) : ∀ n, (emptiesQ S a n).cells.length = S.cells.length ∧ (nth (emptiesQ S a n).cells a).fs.length = (nth S.cells a).fs.length
  | 0 => ⟨rfl, rfl⟩
  | n + 1 => by
    obtain ⟨e1, e2⟩ := emptiesQ_lens h0 h1 n
    obtain ⟨e3, e4⟩ := emptyQ_lens (S := emptiesQ S a n) (a := a) (f := n) h0 (by rw [e1]; exact h1)
    exact ⟨e3.trans e1, e4.trans e2⟩
theorem weakQ_lens {S : Rp} {a : Int} (h0 : 0 ≤ a) (h1 : a < S.cells.length) : (weakQ S a).cells.length = S.cells.length ∧ (nth (weakQ S a).cells a).fs.length = (nth S.cells a).fs.length := by
  refine ⟨by simp [weakQ], ?_⟩
  have e1 := nth_eq (l := (weakQ S a).cells) (i := a) h0 (by simp [weakQ]; omega)
  have e2 := nth_eq (l := S.cells) (i := a) h0 h1
  simp only [weakQ, List.getElem?_map, e2, Option.map_some, Option.some.injEq] at e1
  simp only [weakQ, ← e1]
  simp [clrC]
/-! ### Settle -/
def settleQ : Nat → Nat → Rp → Rp × List Int
  | 0, _, S => (S, [])
  | m + 1, n, S =>
    if (nextQ n S).2.2 = false then ((nextQ n S).1, []) else
    ((settleQ m n (dropQ (nextQ n S).1 (nextQ n S).2.1).1).1, (nextQ n S).2.1 :: (settleQ m n (dropQ (nextQ n S).1 (nextQ n S).2.1).1).2)
def SafeT : Nat → Nat → Rp → Prop
  | 0, _, _ => False
  | m + 1, n, S => SafeQ n S ∧ ((nextQ n S).2.2 = true → QBnd (nextQ n S).1 ∧ (∀ c ∈ (nextQ n S).1.cells, 0 ≤ c.n) ∧ SafeT m n (dropQ (nextQ n S).1 (nextQ n S).2.1).1)
theorem RpR.free (h : RpR k tg H b S) (hw : WF H) {n : Nat} (hf : Keeps (fun g => n ≤ g ∧ tg g = Option.none) H H') : RpR k tg H' b S := by
  obtain ⟨fb, cv, nv, fc, fn, xs, ff, h⟩ := h
  exact ⟨fb, cv, nv, fc, fn, xs, ff, h.keeps hw hf fun g t hg ht => ⟨(fun e => by have := e.2; rw [ht] at this; cases this), ht⟩⟩
end
end Go.Am
