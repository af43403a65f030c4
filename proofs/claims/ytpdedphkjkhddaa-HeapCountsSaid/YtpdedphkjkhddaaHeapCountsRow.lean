/- The row of HeapCounts: the functions that it reaches are those of the small machine, and what the small machine gives goes into the statement. Printed by mkrow.py. -/
import Derived.Test.YtpdedphkjkhddaaRows
import Derived.Test.YtpdedphkjkhddaaAmHeapW
import Derived.Test.YtpdedphkjkhddaaAmPrimA
import Derived.Test.YtpdedphkjkhddaaAmPrim
set_option linter.unusedVariables false
set_option maxRecDepth 100000
namespace Go.Proofs.Ytpdedphkjkhddaa
namespace HeapCounts_
open Go.Am Go.RowKit Go.ChangeShapes

def gl : List Nat := [100,101,102,313,314,315,316,317,318,319,320,321,322,323,324,325,326,327,328,329,330,331,135,332,333,334,335,336,337,338,339,340,341,342,343,344,345,346,347,348,349,350,351,352,353,354,355,356,357,358,359,360,361,362,363,364,365,366,367,368,369,370,371,372,373,374,375,376,377,378,379,380,381,382,383,384,173,385,386,387,388,389,390,391,392,393,394,395,396,397,398,399,400,401,216,217,218,219,220,221,222,223,224,225,226,227,228,229,230,231]
def irs : List (Nat × AFunc) := [(320, ir320), (391, ir391), (385, ir385), (380, ir380), (394, ir394), (386, ir386), (381, ir381), (357, ir357), (343, ir343), (359, ir359), (360, ir360), (324, ir324), (373, ir373), (383, ir383), (374, ir374), (345, ir345), (361, ir361), (325, ir325), (382, ir382), (358, ir358), (339, ir339), (340, ir340), (319, ir319), (323, ir323), (346, ir346), (326, ir326), (344, ir344), (341, ir341), (327, ir327), (314, ir314)]
def prims : Nat → Option (List AV → AHeap → Option (AV × AHeap)) := fun g => if g = 388 then some casPrim else if g = 393 then some addPrim else if g = 387 then some mark0Prim else if g = 389 then some mark0Prim else if g = 390 then some markPrim else if g = 392 then some markPrim else none
def tab : Tab := tabOf irs prims
theorem k320 : compileFn Try.prog (gOf gl) Try.f10 = some ir320 := by kernel_rfl
theorem k391 : compileFn Try.prog (gOf gl) Try.f83 = some ir391 := by kernel_rfl
theorem k385 : compileFn Try.prog (gOf gl) Try.f77 = some ir385 := by kernel_rfl
theorem k380 : compileFn Try.prog (gOf gl) Try.f71 = some ir380 := by kernel_rfl
theorem k394 : compileFn Try.prog (gOf gl) Try.f86 = some ir394 := by kernel_rfl
theorem k386 : compileFn Try.prog (gOf gl) Try.f78 = some ir386 := by kernel_rfl
theorem k381 : compileFn Try.prog (gOf gl) Try.f72 = some ir381 := by kernel_rfl
theorem k357 : compileFn Try.prog (gOf gl) Try.f48 = some ir357 := by kernel_rfl
theorem k343 : compileFn Try.prog (gOf gl) Try.f34 = some ir343 := by kernel_rfl
theorem k359 : compileFn Try.prog (gOf gl) Try.f50 = some ir359 := by kernel_rfl
theorem k360 : compileFn Try.prog (gOf gl) Try.f51 = some ir360 := by kernel_rfl
theorem k324 : compileFn Try.prog (gOf gl) Try.f14 = some ir324 := by kernel_rfl
theorem k373 : compileFn Try.prog (gOf gl) Try.f64 = some ir373 := by kernel_rfl
theorem k383 : compileFn Try.prog (gOf gl) Try.f74 = some ir383 := by kernel_rfl
theorem k374 : compileFn Try.prog (gOf gl) Try.f65 = some ir374 := by kernel_rfl
theorem k345 : compileFn Try.prog (gOf gl) Try.f36 = some ir345 := by kernel_rfl
theorem k361 : compileFn Try.prog (gOf gl) Try.f52 = some ir361 := by kernel_rfl
theorem k325 : compileFn Try.prog (gOf gl) Try.f15 = some ir325 := by kernel_rfl
theorem k382 : compileFn Try.prog (gOf gl) Try.f73 = some ir382 := by kernel_rfl
theorem k358 : compileFn Try.prog (gOf gl) Try.f49 = some ir358 := by kernel_rfl
theorem k339 : compileFn Try.prog (gOf gl) Try.f30 = some ir339 := by kernel_rfl
theorem k340 : compileFn Try.prog (gOf gl) Try.f31 = some ir340 := by kernel_rfl
theorem k319 : compileFn Try.prog (gOf gl) Try.f9 = some ir319 := by kernel_rfl
theorem k323 : compileFn Try.prog (gOf gl) Try.f13 = some ir323 := by kernel_rfl
theorem k346 : compileFn Try.prog (gOf gl) Try.f37 = some ir346 := by kernel_rfl
theorem k326 : compileFn Try.prog (gOf gl) Try.f16 = some ir326 := by kernel_rfl
theorem k344 : compileFn Try.prog (gOf gl) Try.f35 = some ir344 := by kernel_rfl
theorem k341 : compileFn Try.prog (gOf gl) Try.f32 = some ir341 := by kernel_rfl
theorem k327 : compileFn Try.prog (gOf gl) Try.f17 = some ir327 := by kernel_rfl
theorem k314 : compileFn Try.prog (gOf gl) Try.f4 = some ir314 := by kernel_rfl
theorem linked : Linked Try.prog (gOf gl) irs 0 gl := (.no rfl (.no rfl (.no rfl (.no rfl (.yes (ir := ir314) rfl Try.func4 k314 (.no rfl (.no rfl (.no rfl (.no rfl (.yes (ir := ir319) rfl Try.func9 k319 (.yes (ir := ir320) rfl Try.func10 k320 (.no rfl (.no rfl (.yes (ir := ir323) rfl Try.func13 k323 (.yes (ir := ir324) rfl Try.func14 k324 (.yes (ir := ir325) rfl Try.func15 k325 (.yes (ir := ir326) rfl Try.func16 k326 (.yes (ir := ir327) rfl Try.func17 k327 (.no rfl (.no rfl (.no rfl (.no rfl (.no rfl (.no rfl (.no rfl (.no rfl (.no rfl (.no rfl (.no rfl (.no rfl (.yes (ir := ir339) rfl Try.func30 k339 (.yes (ir := ir340) rfl Try.func31 k340 (.yes (ir := ir341) rfl Try.func32 k341 (.no rfl (.yes (ir := ir343) rfl Try.func34 k343 (.yes (ir := ir344) rfl Try.func35 k344 (.yes (ir := ir345) rfl Try.func36 k345 (.yes (ir := ir346) rfl Try.func37 k346 (.no rfl (.no rfl (.no rfl (.no rfl (.no rfl (.no rfl (.no rfl (.no rfl (.no rfl (.no rfl (.yes (ir := ir357) rfl Try.func48 k357 (.yes (ir := ir358) rfl Try.func49 k358 (.yes (ir := ir359) rfl Try.func50 k359 (.yes (ir := ir360) rfl Try.func51 k360 (.yes (ir := ir361) rfl Try.func52 k361 (.no rfl (.no rfl (.no rfl (.no rfl (.no rfl (.no rfl (.no rfl (.no rfl (.no rfl (.no rfl (.no rfl (.yes (ir := ir373) rfl Try.func64 k373 (.yes (ir := ir374) rfl Try.func65 k374 (.no rfl (.no rfl (.no rfl (.no rfl (.no rfl (.yes (ir := ir380) rfl Try.func71 k380 (.yes (ir := ir381) rfl Try.func72 k381 (.yes (ir := ir382) rfl Try.func73 k382 (.yes (ir := ir383) rfl Try.func74 k383 (.no rfl (.no rfl (.yes (ir := ir385) rfl Try.func77 k385 (.yes (ir := ir386) rfl Try.func78 k386 (.no rfl (.no rfl (.no rfl (.no rfl (.yes (ir := ir391) rfl Try.func83 k391 (.no rfl (.no rfl (.yes (ir := ir394) rfl Try.func86 k394 (.no rfl (.no rfl (.no rfl (.no rfl (.no rfl (.no rfl (.no rfl (.no rfl (.no rfl (.no rfl (.no rfl (.no rfl (.no rfl (.no rfl (.no rfl (.no rfl (.no rfl (.no rfl (.no rfl (.no rfl (.no rfl (.no rfl (.no rfl trivial))))))))))))))))))))))))))))))))))))))))))))))))))))))))))))))))))))))))))))))))))))))))))))))))))))))))))))))
theorem primsOk {B : Prot} {w0 : World} : ∀ f q, prims (gOf gl f) = some q → ∀ args H v H', q args H = some (v, H') → ∀ S, Sub B S → ∀ E w us, HRel (gOf gl) S w0 E H w → VRs (gOf gl) H.next E args us → Back Try.prog (gOf gl) S w0 E H w (callFunc f us.toArray) v H' := by
  intro f q h
  unfold prims at h
  split at h
  · rename_i e
    simp only [Option.some.injEq] at h
    subst h
    have := gOf_at (gl := gl) (i := 80) (by decide) (by decide +kernel) e
    subst this
    exact fun args H v H' hq S _ => cas_back Try.func80 (by kernel_rfl) (by kernel_rfl) (by kernel_rfl) (by kernel_rfl) args H v H' hq S w0
  split at h
  · rename_i e
    simp only [Option.some.injEq] at h
    subst h
    have := gOf_at (gl := gl) (i := 85) (by decide) (by decide +kernel) e
    subst this
    exact fun args H v H' hq S _ => add_back Try.func85 (by kernel_rfl) (by kernel_rfl) (by kernel_rfl) (by kernel_rfl) args H v H' hq S w0
  split at h
  · rename_i e
    simp only [Option.some.injEq] at h
    subst h
    have := gOf_at (gl := gl) (i := 79) (by decide) (by decide +kernel) e
    subst this
    exact fun args H v H' hq S _ => mark0_back (m := .disable) Try.func79 (by kernel_rfl) (by kernel_rfl) (by kernel_rfl) (by kernel_rfl) args H v H' hq S w0
  split at h
  · rename_i e
    simp only [Option.some.injEq] at h
    subst h
    have := gOf_at (gl := gl) (i := 81) (by decide) (by decide +kernel) e
    subst this
    exact fun args H v H' hq S _ => mark0_back (m := .enable) Try.func81 (by kernel_rfl) (by kernel_rfl) (by kernel_rfl) (by kernel_rfl) args H v H' hq S w0
  split at h
  · rename_i e
    simp only [Option.some.injEq] at h
    subst h
    have := gOf_at (gl := gl) (i := 82) (by decide) (by decide +kernel) e
    subst this
    exact fun args H v H' hq S _ => mark_back (m := .acquire) Try.func82 (by kernel_rfl) (by kernel_rfl) (by kernel_rfl) (by kernel_rfl) args H v H' hq S w0
  split at h
  · rename_i e
    simp only [Option.some.injEq] at h
    subst h
    have := gOf_at (gl := gl) (i := 84) (by decide) (by decide +kernel) e
    subst this
    exact fun args H v H' hq S _ => mark_back (m := .releaseMerge) Try.func84 (by kernel_rfl) (by kernel_rfl) (by kernel_rfl) (by kernel_rfl) args H v H' hq S w0
  cases h
theorem link {B : Prot} {w0 : World} : Link Try.prog (gOf gl) B w0 tab.fn tab.prim := link_of (by kernel_rfl) (by decide) linked (by exact primsOk)
theorem d320 : D320 tab := ⟨rfl, rfl⟩
theorem d391 : D391 tab := ⟨rfl, rfl, rfl, rfl, rfl, rfl⟩
theorem d385 : D385 tab := ⟨rfl, rfl, rfl, rfl, rfl, rfl, d391⟩
theorem d380 : D380 tab := ⟨rfl, rfl, d385⟩
theorem d394 : D394 tab := ⟨rfl, rfl, rfl⟩
theorem d386 : D386 tab := ⟨rfl, rfl, rfl, rfl, rfl, d394, rfl⟩
theorem d381 : D381 tab := ⟨rfl, rfl, d386⟩
theorem d357 : D357 tab := ⟨rfl, rfl, d380, d381⟩
theorem d343 : D343 tab := ⟨rfl, rfl, d357⟩
theorem d359 : D359 tab := ⟨rfl, rfl⟩
theorem d360 : D360 tab := ⟨rfl, rfl⟩
theorem d324 : D324 tab := ⟨rfl, rfl, d357, d359, d360⟩
theorem d373 : D373 tab := ⟨rfl, rfl, d359⟩
theorem d383 : D383 tab := ⟨rfl, rfl⟩
theorem d374 : D374 tab := ⟨rfl, rfl, d383⟩
theorem d345 : D345 tab := ⟨rfl, rfl, d357, d373, d359, d374⟩
theorem d361 : D361 tab := ⟨rfl, rfl, d383⟩
theorem d325 : D325 tab := ⟨rfl, rfl, d357, d359, d361⟩
theorem d382 : D382 tab := ⟨rfl, rfl, d374⟩
theorem d358 : D358 tab := ⟨rfl, rfl, d360, d382⟩
theorem d339 : D339 tab := ⟨rfl, rfl, d357, d358, d361⟩
theorem d340 : D340 tab := ⟨rfl, rfl, d357, d359⟩
theorem d319 : D319 tab := ⟨rfl, rfl, d320, d343, d324, d345, d325, d339, d340⟩
theorem d323 : D323 tab := ⟨rfl, rfl, d357, d358⟩
theorem d346 : D346 tab := ⟨rfl, rfl, d357, d373, d374⟩
theorem d326 : D326 tab := ⟨rfl, rfl, d343, d345, d346, d324, d325, d323, d339⟩
theorem d344 : D344 tab := ⟨rfl, rfl, d357, d373⟩
theorem d341 : D341 tab := ⟨rfl, rfl, d357, d359⟩
theorem d327 : D327 tab := ⟨rfl, rfl, d344, d341, d340⟩
theorem d314 : D314 tab := ⟨rfl, rfl, d319, d320, d323, d324, d325, d326, d327⟩
theorem own : ownKnob Try.prog.godebug = none := by kernel_rfl
theorem lifted (os : Os) (started : os.Started) (H : Type) (enc : TypeId × Value → H) :
    ReturnsInHanded {} Try.checked os 4 .any (Rows.heapCountsSpec.pre6 enc Try.prog Try.f4 Rows.heapCountsRow.domain false) (Rows.heapCountsSpec.post enc Try.prog Try.f4 false true false false) := by
  refine returnsInHanded_of_change (C := Try.checked) own started (by kernel_rfl) Try.func4
    (ChangeSpec.witness6 (enc := enc) (C := Try.checked) false ⟨#[], #[.slice none 0 0], []⟩ 8 (by kernel_rfl) (by kernel_rfl) (by kernel_rfl) (by kernel_rfl)) ?_
  intro W base args ds gs before hval hW hcnd _
  exact row_contract (G := gOf gl) (n := 12) (ss := [.slice shA]) (tb := 4) link (f := 4) (ir := ir314) rfl rfl (by kernel_rfl) (by kernel_rfl) (by kernel_rfl) rfl (by kernel_rfl) Try.underlying4 hval hW
    (fun hl => by
      have hp : Try.f4.params.toList.length = 1 := by kernel_rfl
      rw [hp] at hl
      refine match ds, hl with
      | [d1], _ => ?_
      rfl) (fun K vs hw hg => law314 d314 hw hg)
theorem over : Rows.heapCountsRow.holds Try.pinned (OpenSpec.ofChange Rows.heapCountsSpec) :=
  OpenClaim.holds_of_wide 4 Try.f4 rfl rfl rfl rfl rfl rfl rfl ⟨rfl, rfl, rfl, rfl, rfl⟩ rfl rfl rfl rfl rfl (by kernel_rfl) Try.func4 (by kernel_rfl)
    (of_decide_eq_true (by kernel_rfl)) (by unfold Func.isWrapper; first | (rw [if_pos (by decide +kernel)]; kernel_rfl) | (rw [if_neg (by decide +kernel)]; exact ⟨rfl, rfl⟩))
    (fun os started H enc _ => lifted os started H enc)
end HeapCounts_
/-- THE STATEMENT. -/
theorem heapCounts_proved : Rows.HeapCountsSaid := HeapCounts_.over
#print axioms heapCounts_proved
end Go.Proofs.Ytpdedphkjkhddaa
