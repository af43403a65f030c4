/- What the small machine is told of functions without a body is what the model's own entries do. -/
import Derived.Test.YtdgkaachkodimaaDoorAmTops
import Derived.Test.YtdgkaachkodimaaDoorAmPrimD
import Derived.Test.YtdgkaachkodimaaDoorAmPrimAD
import Derived.Laws.LoneSync
import Derived.Test.YtdgkaachkodimaaDoorAmPrimBD
set_option linter.unusedVariables false
set_option linter.unusedSimpArgs false
namespace Go.Am
open Go.RowKit
variable {P : Program} {G : Nat → Nat}
theorem gOf_at {gl : List Nat} {g i : Nat} (hg : g < 1000000) (h : ((List.range gl.length).all fun f => decide (gl.getD f 0 ≠ g ∨ f = i)) = true) {f : Nat} (hf : gOf gl f = g) : f = i := by
  unfold gOf at hf
  by_cases hl : f < gl.length
  · have h1 := List.all_eq_true.1 h f (List.mem_range.2 hl)
    have e : gl.getD f 0 = gl.getD f (1000000 + f) := by simp [List.getD, List.getElem?_eq_getElem hl]
    rw [e] at h1
    have h1 := of_decide_eq_true h1
    rcases h1 with h1 | h1
    · exact absurd hf h1
    · exact h1
  · have e : gl.getD f (1000000 + f) = 1000000 + f := by simp [List.getD, List.getElem?_eq_none (Nat.le_of_not_lt hl)]
    omega
end Go.Am

/- What the small machine is told of what the lock of package sync calls is what the model's own entries do. -/
set_option linter.unusedVariables false
set_option linter.unusedSimpArgs false
namespace Go.Am
open Go.RowKit
variable {P : Program} {G : Nat → Nat}
end Go.Am

/- What a strings.Builder calls: internal/abi.NoEscape gives what it is given. -/
set_option linter.unusedVariables false
set_option linter.unusedSimpArgs false
namespace Go.Am
open Go.RowKit
variable {P : Program} {G : Nat → Nat}
theorem noEsc_back {f : Nat} {fn : Func} (hf : P.funcs[f]? = some fn) (hname : (fn.name == "runtime.NumGoroutine") = false) (hb : fn.body.isNone = true) (hn : Extern.findNext fn = none) (he : Extern.find fn = some Extern.AbiNoEscape.same) :
    ∀ args H v H', noEscPrim args H = some (v, H') → ∀ B w0 E w us, HRel G B w0 E H w → VRs G H.next E args us → Back P G B w0 E H w (callFunc f us.toArray) v H' := by
  intro args H v H' h B w0 E w us hr hv
  match args, h with
  | [.ptr (some p)], h =>
    simp [noEscPrim] at h
    obtain ⟨rfl, rfl⟩ := h
    obtain ⟨x, r, rfl, hx, rfl⟩ := hv
    refine .inl ⟨x, w, E, ?_, hx, Nat.le_refl _, Ext.refl _ _, hr⟩
    show (callFunc f #[x]).run P w = _
    rw [run_callFunc_extern hf hname hb hn he]
    rfl
theorem noEsc_next {args : List AV} {H H' : AHeap} {v : AV} (h : noEscPrim args H = some (v, H')) : H.next ≤ H'.next := by
  unfold noEscPrim at h
  split at h
  · simp at h; rw [← h.2]; exact Nat.le_refl _
  · cases h
end Go.Am
