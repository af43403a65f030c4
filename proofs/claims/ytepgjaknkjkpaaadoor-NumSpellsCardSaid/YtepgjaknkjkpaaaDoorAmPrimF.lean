/- What the small machine is told of strconv.FormatInt and math/bits.TrailingZeros is what the library's texts do. -/
import Derived.Test.YtepgjaknkjkpaaaDoorAmPrimI
import Derived.Test.YtepgjaknkjkpaaaDoorAmPrimFD
import Derived.Shelf.Strconv.Itoa4
import Derived.Shelf.Spec.TrailingZeros
set_option linter.unusedVariables false
set_option linter.unusedSimpArgs false
namespace Go.Am
open Go.RowKit Go.Shelf Go.Proofs
variable {P : Program} {G : Nat → Nat} {ρ : Ren}

theorem fmt_back (L : LaysM.n173 P ρ) {f : Nat} (hf : ρ.f 173 = f) {B : Prot} {w0 : World} (hT : ∀ w, Keep B w0 w → Lib.TabIs P w "internal/strconv.uint64pow10" .u64 Lib.pow10Tab) :
    ∀ args H v H', fmtPrim args H = some (v, H') → ∀ S, Sub B S → ∀ E w us, HRel G S w0 E H w → VRs G H.next E args us → Back P G S w0 E H w (callFunc f us.toArray) v H' := by
  subst hf
  intro args H v H' h S hS E w us hr hv
  match args, h with
  | [.int .i64 c, .int .i64 b], h =>
    simp only [fmtPrim] at h
    split at h
    · rename_i hc
      obtain ⟨rfl, hc1, hc2⟩ := hc
      simp only [Option.some.injEq, Prod.mk.injEq] at h
      obtain ⟨rfl, rfl⟩ := h
      obtain ⟨x, r, rfl, hx, y, r2, rfl, hy, rfl⟩ := hv
      have hx : x = .int .i64 c := hx
      have hy : y = .int .i64 10 := hy
      subst hx; subst hy
      have hE : ∀ args w, (callFunc (ρ.f 173) args).run P w = .ok (.enter (ρ.f 173) args) w := enters_of L.f173 (by kernel_rfl) rfl
      refine .inr ⟨ρ.f 173, #[.int .i64 c, .int .i64 10], ?_, ?_⟩
      · have e : ([Value.int .i64 c, Value.int .i64 10] : List Value).toArray = #[Value.int .i64 c, Value.int .i64 10] := rfl
        rw [e]; exact hE _ _
      · refine (Any.strconv_FormatInt_10 L c hc1 hc2 w (hT w (hr.below.sub hS))).mono ?_
        rintro e w' ⟨rfl, k, os, rfl⟩
        exact ⟨_, E, rfl, rfl, Nat.le_refl _, Ext.refl _ _, hr.grown (below_drawn _ _ _)⟩
    · cases h

theorem tz_back (L : Lays7.n27 P ρ) {f : Nat} (hf : ρ.f 27 = f) {B : Prot} {w0 : World} (hT2 : ∀ w, Keep B w0 w → TabAt (ρ.g 1) Lib.deBruijn64tab w) :
    ∀ args H v H', tzPrim args H = some (v, H') → ∀ S, Sub B S → ∀ E w us, HRel G S w0 E H w → VRs G H.next E args us → Back P G S w0 E H w (callFunc f us.toArray) v H' := by
  subst hf
  intro args H v H' h S hS E w us hr hv
  match args, h with
  | [.int .u64 c], h =>
    simp only [tzPrim] at h
    split at h
    · rename_i hc
      obtain ⟨hc1, hc2⟩ := hc
      simp only [Option.some.injEq, Prod.mk.injEq] at h
      obtain ⟨rfl, rfl⟩ := h
      obtain ⟨x, r, rfl, hx, rfl⟩ := hv
      have hx : x = .int .u64 c := hx
      subst hx
      obtain ⟨n, rfl⟩ : ∃ n : Nat, c = n := ⟨c.toNat, by omega⟩
      have hE : ∀ args w, (callFunc (ρ.f 27) args).run P w = .ok (.enter (ρ.f 27) args) w := enters_of L.f27 (by kernel_rfl) rfl
      refine .inr ⟨ρ.f 27, #[.int .u64 (n : Int)], ?_, ?_⟩
      · have e : ([Value.int .u64 (n : Int)] : List Value).toArray = #[Value.int .u64 (n : Int)] := rfl
        rw [e]; exact hE _ _
      · refine (Any7.bits_TrailingZeros L n (by omega) w (fun _ => hT2 w (hr.below.sub hS))).mono ?_
        rintro e w' ⟨rfl, rfl⟩
        exact ⟨_, E, rfl, rfl, Nat.le_refl _, Ext.refl _ _, hr⟩
    · cases h
end Go.Am
