/- The row of HeapPlays: the functions that it reaches are those of the small machine, and what the small machine gives goes into the statement. Printed by mkrow.py. -/
import Derived.Test.YtpdedphkjkhddaaRows
import Derived.Test.YtpdedphkjkhddaaAmHeapS
import Derived.Test.YtpdedphkjkhddaaAmPrimA
import Derived.Test.YtpdedphkjkhddaaAmPrim
set_option linter.unusedVariables false
set_option maxRecDepth 100000
namespace Go.Proofs.Ytpdedphkjkhddaa
namespace HeapPlays_
open Go.Am Go.RowKit Go.ChangeShapes

def gl : List Nat := [100,101,102,313,314,315,316,317,318,319,320,321,322,323,324,325,326,327,328,329,330,331,135,332,333,334,335,336,337,338,339,340,341,342,343,344,345,346,347,348,349,350,351,352,353,354,355,356,357,358,359,360,361,362,363,364,365,366,367,368,369,370,371,372,373,374,375,376,377,378,379,380,381,382,383,384,173,385,386,387,388,389,390,391,392,393,394,395,396,397,398,399,400,401,216,217,218,219,220,221,222,223,224,225,226,227,228,229,230,231]
def irs : List (Nat × AFunc) := [(320, ir320), (391, ir391), (385, ir385), (380, ir380), (394, ir394), (386, ir386), (381, ir381), (357, ir357), (343, ir343), (359, ir359), (360, ir360), (324, ir324), (373, ir373), (383, ir383), (374, ir374), (345, ir345), (361, ir361), (325, ir325), (382, ir382), (358, ir358), (339, ir339), (340, ir340), (319, ir319), (347, ir347), (376, ir376), (375, ir375), (378, ir378), (377, ir377), (348, ir348), (346, ir346), (349, ir349), (350, ir350), (351, ir351), (323, ir323), (379, ir379), (352, ir352), (353, ir353), (135, ir135), (321, ir321), (341, ir341), (354, ir354), (355, ir355), (344, ir344), (356, ir356), (322, ir322), (313, ir313)]
def prims : Nat → Option (List AV → AHeap → Option (AV × AHeap)) := fun g => if g = 388 then some casPrim else if g = 393 then some addPrim else if g = 387 then some mark0Prim else if g = 389 then some mark0Prim else if g = 390 then some markPrim else if g = 392 then some markPrim else none
def tab : Tab := tabOf irs prims
theorem k320 : compileFn Try.prog (gOf gl) Try.f10 = some ir320 := by kernel_rfl
theorem k391 : compileFn Try.prog (gOf gl) Try.f83 = some ir391 := by kernel_rfl
theorem k385 : compileFn Try.prog (gOf gl) Try.f77 = some ir385 := by kernel_rfl
theorem k380 : compileFn Try.prog (gOf gl) Try.f71 = some ir380 := by kernel_rfl
theorem k394 : compileFn Try.prog (gOf gl) Try.f86 = some ir394 := by kernel_rfl
theorem k386 : compileFn Try.prog (gOf gl) Try.f78 = some ir386 := by kernel_rfl
theorem k381 : compileFn Try.prog (gOf gl) Try.f72 = some ir381 := by kernel_rfl
theorem k357 : compileFn Try.prog (gOf gl) Try.f48 = some ir357 := by kernel_rfl
theorem k343 : compileFn Try.prog (gOf gl) Try.f34 = some ir343 := by kernel_rfl
theorem k359 : compileFn Try.prog (gOf gl) Try.f50 = some ir359 := by kernel_rfl
theorem k360 : compileFn Try.prog (gOf gl) Try.f51 = some ir360 := by kernel_rfl
theorem k324 : compileFn Try.prog (gOf gl) Try.f14 = some ir324 := by kernel_rfl
theorem k373 : compileFn Try.prog (gOf gl) Try.f64 = some ir373 := by kernel_rfl
theorem k383 : compileFn Try.prog (gOf gl) Try.f74 = some ir383 := by kernel_rfl
theorem k374 : compileFn Try.prog (gOf gl) Try.f65 = some ir374 := by kernel_rfl
theorem k345 : compileFn Try.prog (gOf gl) Try.f36 = some ir345 := by kernel_rfl
theorem k361 : compileFn Try.prog (gOf gl) Try.f52 = some ir361 := by kernel_rfl
theorem k325 : compileFn Try.prog (gOf gl) Try.f15 = some ir325 := by kernel_rfl
theorem k382 : compileFn Try.prog (gOf gl) Try.f73 = some ir382 := by kernel_rfl
theorem k358 : compileFn Try.prog (gOf gl) Try.f49 = some ir358 := by kernel_rfl
theorem k339 : compileFn Try.prog (gOf gl) Try.f30 = some ir339 := by kernel_rfl
theorem k340 : compileFn Try.prog (gOf gl) Try.f31 = some ir340 := by kernel_rfl
theorem k319 : compileFn Try.prog (gOf gl) Try.f9 = some ir319 := by kernel_rfl
theorem k347 : compileFn Try.prog (gOf gl) Try.f38 = some ir347 := by kernel_rfl
theorem k376 : compileFn Try.prog (gOf gl) Try.f67 = some ir376 := by kernel_rfl
theorem k375 : compileFn Try.prog (gOf gl) Try.f66 = some ir375 := by kernel_rfl
theorem k378 : compileFn Try.prog (gOf gl) Try.f69 = some ir378 := by kernel_rfl
theorem k377 : compileFn Try.prog (gOf gl) Try.f68 = some ir377 := by kernel_rfl
theorem k348 : compileFn Try.prog (gOf gl) Try.f39 = some ir348 := by kernel_rfl
theorem k346 : compileFn Try.prog (gOf gl) Try.f37 = some ir346 := by kernel_rfl
theorem k349 : compileFn Try.prog (gOf gl) Try.f40 = some ir349 := by kernel_rfl
theorem k350 : compileFn Try.prog (gOf gl) Try.f41 = some ir350 := by kernel_rfl
theorem k351 : compileFn Try.prog (gOf gl) Try.f42 = some ir351 := by kernel_rfl
theorem k323 : compileFn Try.prog (gOf gl) Try.f13 = some ir323 := by kernel_rfl
theorem k379 : compileFn Try.prog (gOf gl) Try.f70 = some ir379 := by kernel_rfl
theorem k352 : compileFn Try.prog (gOf gl) Try.f43 = some ir352 := by kernel_rfl
theorem k353 : compileFn Try.prog (gOf gl) Try.f44 = some ir353 := by kernel_rfl
theorem k135 : compileFn Try.prog (gOf gl) Try.f22 = some ir135 := by kernel_rfl
theorem k321 : compileFn Try.prog (gOf gl) Try.f11 = some ir321 := by kernel_rfl
theorem k341 : compileFn Try.prog (gOf gl) Try.f32 = some ir341 := by kernel_rfl
theorem k354 : compileFn Try.prog (gOf gl) Try.f45 = some ir354 := by kernel_rfl
theorem k355 : compileFn Try.prog (gOf gl) Try.f46 = some ir355 := by kernel_rfl
theorem k344 : compileFn Try.prog (gOf gl) Try.f35 = some ir344 := by kernel_rfl
theorem k356 : compileFn Try.prog (gOf gl) Try.f47 = some ir356 := by kernel_rfl
theorem k322 : compileFn Try.prog (gOf gl) Try.f12 = some ir322 := by kernel_rfl
theorem k313 : compileFn Try.prog (gOf gl) Try.f3 = some ir313 := by kernel_rfl
theorem linked : Linked Try.prog (gOf gl) irs 0 gl := (.no rfl (.no rfl (.no rfl (.yes (ir := ir313) rfl Try.func3 k313 (.no rfl (.no rfl (.no rfl (.no rfl (.no rfl (.yes (ir := ir319) rfl Try.func9 k319 (.yes (ir := ir320) rfl Try.func10 k320 (.yes (ir := ir321) rfl Try.func11 k321 (.yes (ir := ir322) rfl Try.func12 k322 (.yes (ir := ir323) rfl Try.func13 k323 (.yes (ir := ir324) rfl Try.func14 k324 (.yes (ir := ir325) rfl Try.func15 k325 (.no rfl (.no rfl (.no rfl (.no rfl (.no rfl (.no rfl (.yes (ir := ir135) rfl Try.func22 k135 (.no rfl (.no rfl (.no rfl (.no rfl (.no rfl (.no rfl (.no rfl (.yes (ir := ir339) rfl Try.func30 k339 (.yes (ir := ir340) rfl Try.func31 k340 (.yes (ir := ir341) rfl Try.func32 k341 (.no rfl (.yes (ir := ir343) rfl Try.func34 k343 (.yes (ir := ir344) rfl Try.func35 k344 (.yes (ir := ir345) rfl Try.func36 k345 (.yes (ir := ir346) rfl Try.func37 k346 (.yes (ir := ir347) rfl Try.func38 k347 (.yes (ir := ir348) rfl Try.func39 k348 (.yes (ir := ir349) rfl Try.func40 k349 (.yes (ir := ir350) rfl Try.func41 k350 (.yes (ir := ir351) rfl Try.func42 k351 (.yes (ir := ir352) rfl Try.func43 k352 (.yes (ir := ir353) rfl Try.func44 k353 (.yes (ir := ir354) rfl Try.func45 k354 (.yes (ir := ir355) rfl Try.func46 k355 (.yes (ir := ir356) rfl Try.func47 k356 (.yes (ir := ir357) rfl Try.func48 k357 (.yes (ir := ir358) rfl Try.func49 k358 (.yes (ir := ir359) rfl Try.func50 k359 (.yes (ir := ir360) rfl Try.func51 k360 (.yes (ir := ir361) rfl Try.func52 k361 (.no rfl (.no rfl (.no rfl (.no rfl (.no rfl (.no rfl (.no rfl (.no rfl (.no rfl (.no rfl (.no rfl (.yes (ir := ir373) rfl Try.func64 k373 (.yes (ir := ir374) rfl Try.func65 k374 (.yes (ir := ir375) rfl Try.func66 k375 (.yes (ir := ir376) rfl Try.func67 k376 (.yes (ir := ir377) rfl Try.func68 k377 (.yes (ir := ir378) rfl Try.func69 k378 (.yes (ir := ir379) rfl Try.func70 k379 (.yes (ir := ir380) rfl Try.func71 k380 (.yes (ir := ir381) rfl Try.func72 k381 (.yes (ir := ir382) rfl Try.func73 k382 (.yes (ir := ir383) rfl Try.func74 k383 (.no rfl (.no rfl (.yes (ir := ir385) rfl Try.func77 k385 (.yes (ir := ir386) rfl Try.func78 k386 (.no rfl (.no rfl (.no rfl (.no rfl (.yes (ir := ir391) rfl Try.func83 k391 (.no rfl (.no rfl (.yes (ir := ir394) rfl Try.func86 k394 (.no rfl (.no rfl (.no rfl (.no rfl (.no rfl (.no rfl (.no rfl (.no rfl (.no rfl (.no rfl (.no rfl (.no rfl (.no rfl (.no rfl (.no rfl (.no rfl (.no rfl (.no rfl (.no rfl (.no rfl (.no rfl (.no rfl (.no rfl trivial))))))))))))))))))))))))))))))))))))))))))))))))))))))))))))))))))))))))))))))))))))))))))))))))))))))))))))))
theorem primsOk {B : Prot} {w0 : World} : ∀ f q, prims (gOf gl f) = some q → ∀ args H v H', q args H = some (v, H') → ∀ S, Sub B S → ∀ E w us, HRel (gOf gl) S w0 E H w → VRs (gOf gl) H.next E args us → Back Try.prog (gOf gl) S w0 E H w (callFunc f us.toArray) v H' := by
  intro f q h
  unfold prims at h
  split at h
  · rename_i e
    simp only [Option.some.injEq] at h
    subst h
    have := gOf_at (gl := gl) (i := 80) (by decide) (by decide +kernel) e
    subst this
    exact fun args H v H' hq S _ => cas_back Try.func80 (by kernel_rfl) (by kernel_rfl) (by kernel_rfl) (by kernel_rfl) args H v H' hq S w0
  split at h
  · rename_i e
    simp only [Option.some.injEq] at h
    subst h
    have := gOf_at (gl := gl) (i := 85) (by decide) (by decide +kernel) e
    subst this
    exact fun args H v H' hq S _ => add_back Try.func85 (by kernel_rfl) (by kernel_rfl) (by kernel_rfl) (by kernel_rfl) args H v H' hq S w0
  split at h
  · rename_i e
    simp only [Option.some.injEq] at h
    subst h
    have := gOf_at (gl := gl) (i := 79) (by decide) (by decide +kernel) e
    subst this
    exact fun args H v H' hq S _ => mark0_back (m := .disable) Try.func79 (by kernel_rfl) (by kernel_rfl) (by kernel_rfl) (by kernel_rfl) args H v H' hq S w0
  split at h
  · rename_i e
    simp only [Option.some.injEq] at h
    subst h
    have := gOf_at (gl := gl) (i := 81) (by decide) (by decide +kernel) e
    subst this
    exact fun args H v H' hq S _ => mark0_back (m := .enable) Try.func81 (by kernel_rfl) (by kernel_rfl) (by kernel_rfl) (by kernel_rfl) args H v H' hq S w0
  split at h
  · rename_i e
    simp only [Option.some.injEq] at h
    subst h
    have := gOf_at (gl := gl) (i := 82) (by decide) (by decide +kernel) e
    subst this
    exact fun args H v H' hq S _ => mark_back (m := .acquire) Try.func82 (by kernel_rfl) (by kernel_rfl) (by kernel_rfl) (by kernel_rfl) args H v H' hq S w0
  split at h
  · rename_i e
    simp only [Option.some.injEq] at h
    subst h
    have := gOf_at (gl := gl) (i := 84) (by decide) (by decide +kernel) e
    subst this
    exact fun args H v H' hq S _ => mark_back (m := .releaseMerge) Try.func84 (by kernel_rfl) (by kernel_rfl) (by kernel_rfl) (by kernel_rfl) args H v H' hq S w0
  cases h
theorem link {B : Prot} {w0 : World} : Link Try.prog (gOf gl) B w0 tab.fn tab.prim := link_of (by kernel_rfl) (by decide) linked (by exact primsOk)
theorem d320 : D320 tab := ⟨rfl, rfl⟩
theorem d391 : D391 tab := ⟨rfl, rfl, rfl, rfl, rfl, rfl⟩
theorem d385 : D385 tab := ⟨rfl, rfl, rfl, rfl, rfl, rfl, d391⟩
theorem d380 : D380 tab := ⟨rfl, rfl, d385⟩
theorem d394 : D394 tab := ⟨rfl, rfl, rfl⟩
theorem d386 : D386 tab := ⟨rfl, rfl, rfl, rfl, rfl, d394, rfl⟩
theorem d381 : D381 tab := ⟨rfl, rfl, d386⟩
theorem d357 : D357 tab := ⟨rfl, rfl, d380, d381⟩
theorem d343 : D343 tab := ⟨rfl, rfl, d357⟩
theorem d359 : D359 tab := ⟨rfl, rfl⟩
theorem d360 : D360 tab := ⟨rfl, rfl⟩
theorem d324 : D324 tab := ⟨rfl, rfl, d357, d359, d360⟩
theorem d373 : D373 tab := ⟨rfl, rfl, d359⟩
theorem d383 : D383 tab := ⟨rfl, rfl⟩
theorem d374 : D374 tab := ⟨rfl, rfl, d383⟩
theorem d345 : D345 tab := ⟨rfl, rfl, d357, d373, d359, d374⟩
theorem d361 : D361 tab := ⟨rfl, rfl, d383⟩
theorem d325 : D325 tab := ⟨rfl, rfl, d357, d359, d361⟩
theorem d382 : D382 tab := ⟨rfl, rfl, d374⟩
theorem d358 : D358 tab := ⟨rfl, rfl, d360, d382⟩
theorem d339 : D339 tab := ⟨rfl, rfl, d357, d358, d361⟩
theorem d340 : D340 tab := ⟨rfl, rfl, d357, d359⟩
theorem d319 : D319 tab := ⟨rfl, rfl, d320, d343, d324, d345, d325, d339, d340⟩
theorem d347 : D347 tab := ⟨rfl, rfl⟩
theorem d376 : D376 tab := ⟨rfl, rfl⟩
theorem d375 : D375 tab := ⟨rfl, rfl, d376⟩
theorem d378 : D378 tab := ⟨rfl, rfl⟩
theorem d377 : D377 tab := ⟨rfl, rfl, d378⟩
theorem d348 : D348 tab := ⟨rfl, rfl, d375, d376, d377⟩
theorem d346 : D346 tab := ⟨rfl, rfl, d357, d373, d374⟩
theorem d349 : D349 tab := ⟨rfl, rfl, d375, d377⟩
theorem d350 : D350 tab := ⟨rfl, rfl, d376⟩
theorem d351 : D351 tab := ⟨rfl, rfl, d376, d378⟩
theorem d323 : D323 tab := ⟨rfl, rfl, d357, d358⟩
theorem d379 : D379 tab := ⟨rfl, rfl, d377⟩
theorem d352 : D352 tab := ⟨rfl, rfl, d378, d379⟩
theorem d353 : D353 tab := ⟨rfl, rfl, d352, d351⟩
theorem d135 : D135 tab := ⟨rfl, rfl⟩
theorem d321 : D321 tab := ⟨rfl, rfl, d343, d347, d345, d348, d346, d349, d324, d350, d325, d351, d323, d352, d339, d353, d135⟩
theorem d341 : D341 tab := ⟨rfl, rfl, d357, d359⟩
theorem d354 : D354 tab := ⟨rfl, rfl, d378⟩
theorem d355 : D355 tab := ⟨rfl, rfl⟩
theorem d344 : D344 tab := ⟨rfl, rfl, d357, d373⟩
theorem d356 : D356 tab := ⟨rfl, rfl, d375⟩
theorem d322 : D322 tab := ⟨rfl, rfl, d341, d354, d340, d355, d344, d356⟩
theorem d313 : D313 tab := ⟨rfl, rfl, d319, d320, d321, d322⟩
theorem own : ownKnob Try.prog.godebug = none := by kernel_rfl
theorem lifted (os : Os) (started : os.Started) (H : Type) (enc : TypeId × Value → H) :
    ReturnsInHanded {} Try.checked os 3 .any (Rows.heapPlaysSpec.pre6 enc Try.prog Try.f3 Rows.heapPlaysRow.domain false) (Rows.heapPlaysSpec.post enc Try.prog Try.f3 false true false false) := by
  refine returnsInHanded_of_change (C := Try.checked) own started (by kernel_rfl) Try.func3
    (ChangeSpec.witness6 (enc := enc) (C := Try.checked) false ⟨#[], #[.slice none 0 0], []⟩ 8 (by kernel_rfl) (by kernel_rfl) (by kernel_rfl) (by kernel_rfl)) ?_
  intro W base args ds gs before hval hW hcnd _
  exact row_contract (G := gOf gl) (n := 12) (ss := [.slice shA]) (tb := 4) link (f := 3) (ir := ir313) rfl rfl (by kernel_rfl) (by kernel_rfl) (by kernel_rfl) rfl (by kernel_rfl) Try.underlying4 hval hW
    (fun hl => by
      have hp : Try.f3.params.toList.length = 1 := by kernel_rfl
      rw [hp] at hl
      refine match ds, hl with
      | [d1], _ => ?_
      rfl) (fun K vs hw hg => law313 d313 hw hg)
theorem over : Rows.heapPlaysRow.holds Try.pinned (OpenSpec.ofChange Rows.heapPlaysSpec) :=
  OpenClaim.holds_of_wide 3 Try.f3 rfl rfl rfl rfl rfl rfl rfl ⟨rfl, rfl, rfl, rfl, rfl⟩ rfl rfl rfl rfl rfl (by kernel_rfl) Try.func3 (by kernel_rfl)
    (of_decide_eq_true (by kernel_rfl)) (by unfold Func.isWrapper; first | (rw [if_pos (by decide +kernel)]; kernel_rfl) | (rw [if_neg (by decide +kernel)]; exact ⟨rfl, rfl⟩))
    (fun os started H enc _ => lifted os started H enc)
end HeapPlays_
/-- THE STATEMENT. -/
theorem heapPlays_proved : Rows.HeapPlaysSaid := HeapPlays_.over
#print axioms heapPlays_proved
end Go.Proofs.Ytpdedphkjkhddaa
