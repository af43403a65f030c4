/- What the small machine is told of what the lock of package sync calls is what the model's own entries do. -/
import Derived.Test.YtigpdaofldfkoaaAmPrim
import Derived.Test.YtigpdaofldfkoaaAmPrimAD
import Derived.Laws.LoneSync
set_option linter.unusedVariables false
set_option linter.unusedSimpArgs false
namespace Go.Am
open Go.RowKit
variable {P : Program} {G : Nat → Nat}
theorem mark0_back {m : Mark} {f : Nat} {fn : Func} (hf : P.funcs[f]? = some fn) (hname : (fn.name == "runtime.NumGoroutine") = false) (hb : fn.body.isNone = true) (hn : Extern.findNext fn = none) (he : Extern.find fn = some (fun _ => do mark m; pure Extern.Race.none_)) :
    ∀ args H v H', mark0Prim args H = some (v, H') → ∀ B w0 E w us, HRel G B w0 E H w → VRs G H.next E args us → Back P G B w0 E H w (callFunc f us.toArray) v H' := by
  intro args H v H' h B w0 E w us hr hv
  match args, h with
  | [], h =>
    simp [mark0Prim] at h
    obtain ⟨rfl, rfl⟩ := h
    obtain rfl : us = [] := hv
    exact .inl ⟨.tuple #[], w, E, run_call_mark0 hf hname hb hn m he w, ⟨#[], rfl, rfl⟩, Nat.le_refl _, Ext.refl _ _, hr⟩
theorem mark_back {m : Addr → Mark} {f : Nat} {fn : Func} (hf : P.funcs[f]? = some fn) (hname : (fn.name == "runtime.NumGoroutine") = false) (hb : fn.body.isNone = true) (hn : Extern.findNext fn = none) (he : Extern.find fn = some (Extern.Race.marked m)) :
    ∀ args H v H', markPrim args H = some (v, H') → ∀ B w0 E w us, HRel G B w0 E H w → VRs G H.next E args us → Back P G B w0 E H w (callFunc f us.toArray) v H' := by
  intro args H v H' h B w0 E w us hr hv
  match args, h with
  | [.ptr (some p)], h =>
    simp [markPrim] at h
    obtain ⟨rfl, rfl⟩ := h
    obtain ⟨x, r, rfl, hx, rfl⟩ := hv
    obtain ⟨b, off⟩ := p
    have hx := hx.2
    subst hx
    exact .inl ⟨.tuple #[], w, E, run_call_marked hf hname hb hn m he _ w, ⟨#[], rfl, rfl⟩, Nat.le_refl _, Ext.refl _ _, hr⟩
/-- One cell that is read and may be written. -/
theorem one_cell {B : Prot} {w0 w : World} {E : Nat → Ent} {H H' : AHeap} (h : HRel G B w0 E H w) {b off : Nat} {z y : AV} (hl : H.ld b off 1 = some [z]) (hs : H.st b off [y] = some H') {u : Value} (hv : VR G H.next E y u) :
    (∃ uz, w.cell? ⟨(E b).g, (E b).o + off, none⟩ = some uz ∧ VR G H.next E z uz) ∧ w.frozen? ⟨(E b).g, (E b).o + off, none⟩ = false ∧ H'.next = H.next ∧ HRel G B w0 E H' (w.setCell ⟨(E b).g, (E b).o + off, none⟩ u) := by
  obtain ⟨k1, k2, us, k3, k4⟩ := h.ld hl
  obtain ⟨u0, r, rfl, k5, k6⟩ := k3
  obtain ⟨m1, m2, m3, m4, m5, m6⟩ := h.st hs (VRs.single hv)
  refine ⟨⟨u0, by have := k4 0 u0 rfl; rwa [Nat.add_zero] at this, k5⟩, by have := m5 0 (by simp); rwa [Nat.add_zero] at this, m2, ?_⟩
  exact m3
theorem cas_back {f : Nat} {fn : Func} (hf : P.funcs[f]? = some fn) (hname : (fn.name == "runtime.NumGoroutine") = false) (hb : fn.body.isNone = true) (hn : Extern.findNext fn = none) (he : Extern.find fn = some (Extern.Atomic.casT (.int .i32))) :
    ∀ args H v H', casPrim args H = some (v, H') → ∀ B w0 E w us, HRel G B w0 E H w → VRs G H.next E args us → Back P G B w0 E H w (callFunc f us.toArray) v H' := by
  intro args H v H' h B w0 E w us hr hv
  unfold casPrim at h
  split at h
  · rename_i b off x y
    split at h
    · rename_i z hl
      split at h
      · rename_i hz
        subst hz
        split at h
        · rename_i H1 hs
          simp only [Option.some.injEq, Prod.mk.injEq] at h
          obtain ⟨rfl, rfl⟩ := h
          obtain ⟨u1, r1, rfl, v1, u2, r2, rfl, v2, u3, r3, rfl, v3, rfl⟩ := hv
          have v1 := v1.2
          have v2 : u2 = .int .i32 z := v2
          have v3 : u3 = .int .i32 y := v3
          subst v1; subst v2; subst v3
          obtain ⟨⟨uz, q1, q2⟩, q3, q4, q5⟩ := one_cell hr hl hs (u := .int .i32 y) rfl
          have q2 : uz = .int .i32 z := q2
          subst q2
          refine .inl ⟨.bool true, _, E, run_call_cas_hit hf hname hb hn .i32 he q1 q3, rfl, by rw [q4]; exact Nat.le_refl _, Ext.refl _ _, q5⟩
        · cases h
      · cases h
    · cases h
  · cases h
theorem add_back {f : Nat} {fn : Func} (hf : P.funcs[f]? = some fn) (hname : (fn.name == "runtime.NumGoroutine") = false) (hb : fn.body.isNone = true) (hn : Extern.findNext fn = none) (he : Extern.find fn = some (Extern.Atomic.update (Op.intArith .add) .i32 true)) :
    ∀ args H v H', addPrim args H = some (v, H') → ∀ B w0 E w us, HRel G B w0 E H w → VRs G H.next E args us → Back P G B w0 E H w (callFunc f us.toArray) v H' := by
  intro args H v H' h B w0 E w us hr hv
  unfold addPrim at h
  split at h
  · rename_i b off y
    split at h
    · rename_i x hl
      split at h
      · rename_i H1 hs
        simp only [Option.some.injEq, Prod.mk.injEq] at h
        obtain ⟨rfl, rfl⟩ := h
        obtain ⟨u1, r1, rfl, v1, u2, r2, rfl, v2, rfl⟩ := hv
        have v1 := v1.2
        have v2 : u2 = .int .i32 y := v2
        subst v1; subst v2
        obtain ⟨⟨uz, q1, q2⟩, q3, q4, q5⟩ := one_cell hr hl hs (u := .int .i32 (IntKind.i32.wrap (x + y))) rfl
        have q2 : uz = .int .i32 x := q2
        subst q2
        refine .inl ⟨.int .i32 (IntKind.i32.wrap (x + y)), _, E, run_call_add hf hname hb hn .i32 he q1 q3 ?_, rfl, by rw [q4]; exact Nat.le_refl _, Ext.refl _ _, q5⟩
        simp [Op.intArith]
      · cases h
    · cases h
  · cases h
theorem mark0_next {args : List AV} {H H' : AHeap} {v : AV} (h : mark0Prim args H = some (v, H')) : H.next ≤ H'.next := by
  unfold mark0Prim at h
  split at h
  · simp at h; rw [← h.2]; exact Nat.le_refl _
  · cases h
theorem mark_next {args : List AV} {H H' : AHeap} {v : AV} (h : markPrim args H = some (v, H')) : H.next ≤ H'.next := by
  unfold markPrim at h
  split at h
  · simp at h; rw [← h.2]; exact Nat.le_refl _
  · cases h
theorem cas_next {args : List AV} {H H' : AHeap} {v : AV} (h : casPrim args H = some (v, H')) : H.next ≤ H'.next := by
  unfold casPrim at h
  repeat' split at h
  all_goals first
    | (cases h; done)
    | (rename_i hst; simp at h; rw [← h.2, st_next hst]; exact Nat.le_refl _)
theorem add_next {args : List AV} {H H' : AHeap} {v : AV} (h : addPrim args H = some (v, H')) : H.next ≤ H'.next := by
  unfold addPrim at h
  repeat' split at h
  all_goals first
    | (cases h; done)
    | (rename_i hst; simp at h; rw [← h.2, st_next hst]; exact Nat.le_refl _)
end Go.Am
