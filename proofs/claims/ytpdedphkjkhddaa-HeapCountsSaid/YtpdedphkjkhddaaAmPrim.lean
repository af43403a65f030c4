/- What the small machine is told of functions without a body is what the model's own entries do. -/
import Derived.Test.YtpdedphkjkhddaaAmTops
import Derived.Test.YtpdedphkjkhddaaAmPrimD
set_option linter.unusedVariables false
set_option linter.unusedSimpArgs false
namespace Go.Am
open Go.RowKit
variable {P : Program} {G : Nat → Nat}

theorem gOf_at {gl : List Nat} {g i : Nat} (hg : g < 1000000) (h : ((List.range gl.length).all fun f => decide (gl.getD f 0 ≠ g ∨ f = i)) = true) {f : Nat} (hf : gOf gl f = g) : f = i := by
  unfold gOf at hf
  by_cases hl : f < gl.length
  · have h1 := List.all_eq_true.1 h f (List.mem_range.2 hl)
    have e : gl.getD f 0 = gl.getD f (1000000 + f) := by simp [List.getD, List.getElem?_eq_getElem hl]
    rw [e] at h1
    have h1 := of_decide_eq_true h1
    rcases h1 with h1 | h1
    · exact absurd hf h1
    · exact h1
  · have e : gl.getD f (1000000 + f) = 1000000 + f := by simp [List.getD, List.getElem?_eq_none (Nat.le_of_not_lt hl)]
    omega

theorem cmp_back {f : Nat} {fn : Func} (hf : P.funcs[f]? = some fn) (hname : (fn.name == "runtime.NumGoroutine") = false) (hb : fn.body.isNone = true) (hn : Extern.findNext fn = none) (he : Extern.find fn = some Extern.BytealgCompare.compare) :
    ∀ args H v H', cmpPrim args H = some (v, H') → ∀ B w0 E w us, HRel G B w0 E H w → VRs G H.next E args us → Back P G B w0 E H w (callFunc f us.toArray) v H' := by
  intro args H v H' h B w0 E w us hr hv
  match args, h with
  | [.str a, .str b], h =>
    simp [cmpPrim] at h
    obtain ⟨rfl, rfl⟩ := h
    obtain ⟨x, r, rfl, hx, y, r2, rfl, hy, rfl⟩ := hv
    have hx : x = .string ⟨⟨a⟩⟩ := hx
    have hy : y = .string ⟨⟨b⟩⟩ := hy
    subst hx; subst hy
    refine .inl ⟨.int .i64 (Lib.compareBytes a b), w, E, ?_, rfl, Nat.le_refl _, Ext.refl _ _, hr⟩
    have e : ([Value.string ⟨⟨a⟩⟩, Value.string ⟨⟨b⟩⟩] : List Value).toArray = #[Value.string ⟨⟨a⟩⟩, Value.string ⟨⟨b⟩⟩] := rfl
    rw [e, run_callFunc_extern hf hname hb hn he, Lib.run_compareString]
    rfl
end Go.Am
