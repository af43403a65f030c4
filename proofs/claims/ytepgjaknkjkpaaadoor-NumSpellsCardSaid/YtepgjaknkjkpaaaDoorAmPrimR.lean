/- What the small machine is told of repeating a text is what the library's text does. -/
import Derived.Test.YtepgjaknkjkpaaaDoorAmPrim
import Derived.Test.YtepgjaknkjkpaaaDoorAmPrimRD
import Derived.Shelf.Strings.Repeat
set_option linter.unusedVariables false
set_option linter.unusedSimpArgs false
namespace Go.Am
open Go.RowKit Go.Shelf Go.Proofs
variable {P : Program} {G : Nat → Nat} {ρ : Ren}

theorem HRel.grown {B : Prot} {w0 w w' : World} {E : Nat → Ent} {H : AHeap} (h : HRel G B w0 E H w) (k : Below w.heap.size w w') : HRel G B w0 E H w' := by
  refine ⟨h.below.below k, fun g hg => Nat.lt_of_lt_of_le (h.size g hg) k.size, ?_, fun b hb => Nat.lt_of_lt_of_le (h.glt b hb) k.size, h.sep, h.fresh, h.famlt, ?_, h.sepm⟩
  · intro b f cs hb
    refine (h.row b f cs hb).mono (Nat.le_refl _) (Ext.refl _ _) fun i => ?_
    have e := k.block (E b).g (h.glt b (h.row b f cs hb).lt)
    exact ⟨World.cell?_of_block e, World.frozen?_of_block e⟩
  · intro m own es hm
    obtain ⟨h1, h2, h3, es', clock, h4, h5⟩ := h.map m own es hm
    exact ⟨h1, h2, h3, es', clock, by rw [k.block _ (h.glt m h1)]; exact h4, h5⟩

theorem rep_back (L : Lays.n105 P ρ) (X : Builder.Extra P ρ) {f : Nat} (hf : ρ.f 105 = f) :
    ∀ args H v H', repPrim args H = some (v, H') → ∀ B w0 E w us, HRel G B w0 E H w → VRs G H.next E args us → Back P G B w0 E H w (callFunc f us.toArray) v H' := by
  subst hf
  intro args H v H' h B w0 E w us hr hv
  match args, h with
  | [.str s, .int .i64 c], h =>
    simp only [repPrim] at h
    split at h
    · rename_i hc
      simp only [Option.some.injEq, Prod.mk.injEq] at h
      obtain ⟨rfl, rfl⟩ := h
      obtain ⟨x, r, rfl, hx, y, r2, rfl, hy, rfl⟩ := hv
      have hx : x = .string ⟨⟨s⟩⟩ := hx
      have hy : y = .int .i64 c := hy
      subst hx; subst hy
      obtain ⟨n, rfl⟩ : ∃ n : Nat, c = n := ⟨c.toNat, by omega⟩
      have hE : ∀ args w, (callFunc (ρ.f 105) args).run P w = .ok (.enter (ρ.f 105) args) w := enters_of L.f105 (by kernel_rfl) rfl
      refine .inr ⟨ρ.f 105, #[.string ⟨⟨s⟩⟩, .int .i64 (n : Int)], ?_, ?_⟩
      · have e : ([Value.string ⟨⟨s⟩⟩, Value.int .i64 (n : Int)] : List Value).toArray = #[Value.string ⟨⟨s⟩⟩, Value.int .i64 (n : Int)] := rfl
        rw [e]; exact hE _ _
      · refine (Any.strings_Repeat L X ⟨⟨s⟩⟩ n w (by omega) ?_).mono ?_
        · have : (⟨⟨s⟩⟩ : ByteArray).size = s.length := rfl
          rw [this]
          have := hc.2.2
          rw [Int.toNat_natCast] at this
          omega
        · rintro e w' ⟨rfl, hb⟩
          exact ⟨_, E, rfl, rfl, Nat.le_refl _, Ext.refl _ _, hr.grown hb⟩
    · cases h
end Go.Am
