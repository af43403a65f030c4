/- What the small machine is told of the decimal text of a number is what the library's text does. -/
import Derived.Test.YtepgjaknkjkpaaaDoorAmPrim
import Derived.Test.YtepgjaknkjkpaaaDoorAmPrimR
import Derived.Test.YtepgjaknkjkpaaaDoorAmPrimID
import Derived.Shelf.Strconv.Itoa3
import Derived.Sort.Grow
import Derived.Lib.AppendIntMem
set_option linter.unusedVariables false
set_option linter.unusedSimpArgs false
namespace Go.Am
open Go.RowKit Go.Shelf Go.Proofs
variable {P : Program} {G : Nat → Nat} {ρ : Ren}

theorem laidMet_tail {x : String × DataW Unit} {l : List (String × DataW Unit)} {w : World} (h : laidMet P (x :: l) w) : laidMet P l w := by
  obtain ⟨ps, h1, h2, h3⟩ := h
  obtain ⟨n, d⟩ := x
  obtain ⟨g, t, cs, fuel, p, q, _, _, _, _, k, rfl⟩ := h1
  exact ⟨q, k, (List.nodup_append.1 h2).2.1, fun b off hb => h3 b off (List.mem_append_right _ hb)⟩

theorem below_drawn (w : World) (q : Nat) (os : Array Obj) : Below w.heap.size w (Sort.grow (w.drewN q) os) :=
  ⟨rfl, rfl, rfl, by simp [Sort.grow], fun i hi => by
    show ((w.drewN q).heap ++ os)[i]? = _
    rw [Array.getElem?_append_left (by show i < w.heap.size; omega)]
    rfl⟩

theorem itoa_back (L : LaysM.n171 P ρ) {f : Nat} (hf : ρ.f 171 = f) {B : Prot} {w0 : World} (hT : ∀ w, Keep B w0 w → Lib.TabIs P w "internal/strconv.uint64pow10" .u64 Lib.pow10Tab) :
    ∀ args H v H', itoaPrim args H = some (v, H') → ∀ S, Sub B S → ∀ E w us, HRel G S w0 E H w → VRs G H.next E args us → Back P G S w0 E H w (callFunc f us.toArray) v H' := by
  subst hf
  intro args H v H' h S hS E w us hr hv
  match args, h with
  | [.int .i64 c], h =>
    simp only [itoaPrim] at h
    split at h
    · rename_i hc
      simp only [Option.some.injEq, Prod.mk.injEq] at h
      obtain ⟨rfl, rfl⟩ := h
      obtain ⟨x, r, rfl, hx, rfl⟩ := hv
      have hx : x = .int .i64 c := hx
      subst hx
      have hE : ∀ args w, (callFunc (ρ.f 171) args).run P w = .ok (.enter (ρ.f 171) args) w := enters_of L.f171 (by kernel_rfl) rfl
      refine .inr ⟨ρ.f 171, #[.int .i64 c], ?_, ?_⟩
      · have e : ([Value.int .i64 c] : List Value).toArray = #[Value.int .i64 c] := rfl
        rw [e]; exact hE _ _
      · refine (Any.strconv_Itoa L c hc.1 hc.2 w (hT w (hr.below.sub hS))).mono ?_
        rintro e w' ⟨rfl, k, os, rfl⟩
        exact ⟨_, E, rfl, rfl, Nat.le_refl _, Ext.refl _ _, hr.grown (below_drawn _ _ _)⟩
    · cases h
end Go.Am
