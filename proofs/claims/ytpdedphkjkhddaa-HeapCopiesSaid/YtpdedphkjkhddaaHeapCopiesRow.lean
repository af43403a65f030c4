/- The row of HeapCopies: the functions that it reaches are those of the small machine, and what the small machine gives goes into the statement. Printed by mkrow.py. -/
import Derived.Test.YtpdedphkjkhddaaRows
import Derived.Test.YtpdedphkjkhddaaAmHeapKl
import Derived.Test.YtpdedphkjkhddaaAmPrimA
import Derived.Test.YtpdedphkjkhddaaAmPrim
set_option linter.unusedVariables false
set_option maxRecDepth 100000
namespace Go.Proofs.Ytpdedphkjkhddaa
namespace HeapCopies_
open Go.Am Go.RowKit Go.ChangeShapes
def gl : List Nat := [100,101,102,313,314,315,316,317,318,319,320,321,322,323,324,325,326,327,328,329,330,331,135,332,333,334,335,336,337,338,339,340,341,342,343,344,345,346,347,348,349,350,351,352,353,354,355,356,357,358,359,360,361,362,363,364,365,366,367,368,369,370,371,372,373,374,375,376,377,378,379,380,381,382,383,384,173,385,386,387,388,389,390,391,392,393,394,395,396,397,398,399,400,401,216,217,218,219,220,221,222,223,224,225,226,227,228,229,230,231]
def irs : List (Nat × AFunc) := [(320, ir320), (391, ir391), (385, ir385), (380, ir380), (394, ir394), (386, ir386), (381, ir381), (357, ir357), (343, ir343), (359, ir359), (360, ir360), (324, ir324), (373, ir373), (383, ir383), (374, ir374), (345, ir345), (361, ir361), (325, ir325), (382, ir382), (358, ir358), (339, ir339), (340, ir340), (319, ir319), (347, ir347), (376, ir376), (375, ir375), (378, ir378), (377, ir377), (348, ir348), (346, ir346), (349, ir349), (350, ir350), (351, ir351), (323, ir323), (379, ir379), (352, ir352), (353, ir353), (135, ir135), (321, ir321), (362, ir362), (328, ir328), (329, ir329), (363, ir363), (384, ir384), (364, ir364), (365, ir365), (330, ir330), (341, ir341), (354, ir354), (355, ir355), (344, ir344), (356, ir356), (322, ir322), (331, ir331), (315, ir315)]
def prims : Nat → Option (List AV → AHeap → Option (AV × AHeap)) := fun g => if g = 388 then some casPrim else if g = 393 then some addPrim else if g = 387 then some mark0Prim else if g = 389 then some mark0Prim else if g = 390 then some markPrim else if g = 392 then some markPrim else none
def tab (ω : Ora) : Tab := otab (Go.Am.look irs) prims ω
theorem k320 : compileFn Try.prog (gOf gl) Try.f10 = some ir320 := by kernel_rfl
theorem k391 : compileFn Try.prog (gOf gl) Try.f83 = some ir391 := by kernel_rfl
theorem k385 : compileFn Try.prog (gOf gl) Try.f77 = some ir385 := by kernel_rfl
theorem k380 : compileFn Try.prog (gOf gl) Try.f71 = some ir380 := by kernel_rfl
theorem k394 : compileFn Try.prog (gOf gl) Try.f86 = some ir394 := by kernel_rfl
theorem k386 : compileFn Try.prog (gOf gl) Try.f78 = some ir386 := by kernel_rfl
theorem k381 : compileFn Try.prog (gOf gl) Try.f72 = some ir381 := by kernel_rfl
theorem k357 : compileFn Try.prog (gOf gl) Try.f48 = some ir357 := by kernel_rfl
theorem k343 : compileFn Try.prog (gOf gl) Try.f34 = some ir343 := by kernel_rfl
theorem k359 : compileFn Try.prog (gOf gl) Try.f50 = some ir359 := by kernel_rfl
theorem k360 : compileFn Try.prog (gOf gl) Try.f51 = some ir360 := by kernel_rfl
theorem k324 : compileFn Try.prog (gOf gl) Try.f14 = some ir324 := by kernel_rfl
theorem k373 : compileFn Try.prog (gOf gl) Try.f64 = some ir373 := by kernel_rfl
theorem k383 : compileFn Try.prog (gOf gl) Try.f74 = some ir383 := by kernel_rfl
theorem k374 : compileFn Try.prog (gOf gl) Try.f65 = some ir374 := by kernel_rfl
theorem k345 : compileFn Try.prog (gOf gl) Try.f36 = some ir345 := by kernel_rfl
theorem k361 : compileFn Try.prog (gOf gl) Try.f52 = some ir361 := by kernel_rfl
theorem k325 : compileFn Try.prog (gOf gl) Try.f15 = some ir325 := by kernel_rfl
theorem k382 : compileFn Try.prog (gOf gl) Try.f73 = some ir382 := by kernel_rfl
theorem k358 : compileFn Try.prog (gOf gl) Try.f49 = some ir358 := by kernel_rfl
theorem k339 : compileFn Try.prog (gOf gl) Try.f30 = some ir339 := by kernel_rfl
theorem k340 : compileFn Try.prog (gOf gl) Try.f31 = some ir340 := by kernel_rfl
theorem k319 : compileFn Try.prog (gOf gl) Try.f9 = some ir319 := by kernel_rfl
theorem k347 : compileFn Try.prog (gOf gl) Try.f38 = some ir347 := by kernel_rfl
theorem k376 : compileFn Try.prog (gOf gl) Try.f67 = some ir376 := by kernel_rfl
theorem k375 : compileFn Try.prog (gOf gl) Try.f66 = some ir375 := by kernel_rfl
theorem k378 : compileFn Try.prog (gOf gl) Try.f69 = some ir378 := by kernel_rfl
theorem k377 : compileFn Try.prog (gOf gl) Try.f68 = some ir377 := by kernel_rfl
theorem k348 : compileFn Try.prog (gOf gl) Try.f39 = some ir348 := by kernel_rfl
theorem k346 : compileFn Try.prog (gOf gl) Try.f37 = some ir346 := by kernel_rfl
theorem k349 : compileFn Try.prog (gOf gl) Try.f40 = some ir349 := by kernel_rfl
theorem k350 : compileFn Try.prog (gOf gl) Try.f41 = some ir350 := by kernel_rfl
theorem k351 : compileFn Try.prog (gOf gl) Try.f42 = some ir351 := by kernel_rfl
theorem k323 : compileFn Try.prog (gOf gl) Try.f13 = some ir323 := by kernel_rfl
theorem k379 : compileFn Try.prog (gOf gl) Try.f70 = some ir379 := by kernel_rfl
theorem k352 : compileFn Try.prog (gOf gl) Try.f43 = some ir352 := by kernel_rfl
theorem k353 : compileFn Try.prog (gOf gl) Try.f44 = some ir353 := by kernel_rfl
theorem k135 : compileFn Try.prog (gOf gl) Try.f22 = some ir135 := by kernel_rfl
theorem k321 : compileFn Try.prog (gOf gl) Try.f11 = some ir321 := by kernel_rfl
theorem k362 : compileFn Try.prog (gOf gl) Try.f53 = some ir362 := by kernel_rfl
theorem k328 : compileFn Try.prog (gOf gl) Try.f18 = some ir328 := by kernel_rfl
theorem k329 : compileFn Try.prog (gOf gl) Try.f19 = some ir329 := by kernel_rfl
theorem k363 : compileFn Try.prog (gOf gl) Try.f54 = some ir363 := by kernel_rfl
theorem k384 : compileFn Try.prog (gOf gl) Try.f75 = some ir384 := by kernel_rfl
theorem k364 : compileFn Try.prog (gOf gl) Try.f55 = some ir364 := by kernel_rfl
theorem k365 : compileFn Try.prog (gOf gl) Try.f56 = some ir365 := by kernel_rfl
theorem k330 : compileFn Try.prog (gOf gl) Try.f20 = some ir330 := by kernel_rfl
theorem k341 : compileFn Try.prog (gOf gl) Try.f32 = some ir341 := by kernel_rfl
theorem k354 : compileFn Try.prog (gOf gl) Try.f45 = some ir354 := by kernel_rfl
theorem k355 : compileFn Try.prog (gOf gl) Try.f46 = some ir355 := by kernel_rfl
theorem k344 : compileFn Try.prog (gOf gl) Try.f35 = some ir344 := by kernel_rfl
theorem k356 : compileFn Try.prog (gOf gl) Try.f47 = some ir356 := by kernel_rfl
theorem k322 : compileFn Try.prog (gOf gl) Try.f12 = some ir322 := by kernel_rfl
theorem k331 : compileFn Try.prog (gOf gl) Try.f21 = some ir331 := by kernel_rfl
theorem k315 : compileFn Try.prog (gOf gl) Try.f5 = some ir315 := by kernel_rfl
theorem linked : Linked Try.prog (gOf gl) irs 0 gl := (.no rfl (.no rfl (.no rfl (.no rfl (.no rfl (.yes (ir := ir315) rfl Try.func5 k315 (.no rfl (.no rfl (.no rfl (.yes (ir := ir319) rfl Try.func9 k319 (.yes (ir := ir320) rfl Try.func10 k320 (.yes (ir := ir321) rfl Try.func11 k321 (.yes (ir := ir322) rfl Try.func12 k322 (.yes (ir := ir323) rfl Try.func13 k323 (.yes (ir := ir324) rfl Try.func14 k324 (.yes (ir := ir325) rfl Try.func15 k325 (.no rfl (.no rfl (.yes (ir := ir328) rfl Try.func18 k328 (.yes (ir := ir329) rfl Try.func19 k329 (.yes (ir := ir330) rfl Try.func20 k330 (.yes (ir := ir331) rfl Try.func21 k331 (.yes (ir := ir135) rfl Try.func22 k135 (.no rfl (.no rfl (.no rfl (.no rfl (.no rfl (.no rfl (.no rfl (.yes (ir := ir339) rfl Try.func30 k339 (.yes (ir := ir340) rfl Try.func31 k340 (.yes (ir := ir341) rfl Try.func32 k341 (.no rfl (.yes (ir := ir343) rfl Try.func34 k343 (.yes (ir := ir344) rfl Try.func35 k344 (.yes (ir := ir345) rfl Try.func36 k345 (.yes (ir := ir346) rfl Try.func37 k346 (.yes (ir := ir347) rfl Try.func38 k347 (.yes (ir := ir348) rfl Try.func39 k348 (.yes (ir := ir349) rfl Try.func40 k349 (.yes (ir := ir350) rfl Try.func41 k350 (.yes (ir := ir351) rfl Try.func42 k351 (.yes (ir := ir352) rfl Try.func43 k352 (.yes (ir := ir353) rfl Try.func44 k353 (.yes (ir := ir354) rfl Try.func45 k354 (.yes (ir := ir355) rfl Try.func46 k355 (.yes (ir := ir356) rfl Try.func47 k356 (.yes (ir := ir357) rfl Try.func48 k357 (.yes (ir := ir358) rfl Try.func49 k358 (.yes (ir := ir359) rfl Try.func50 k359 (.yes (ir := ir360) rfl Try.func51 k360 (.yes (ir := ir361) rfl Try.func52 k361 (.yes (ir := ir362) rfl Try.func53 k362 (.yes (ir := ir363) rfl Try.func54 k363 (.yes (ir := ir364) rfl Try.func55 k364 (.yes (ir := ir365) rfl Try.func56 k365 (.no rfl (.no rfl (.no rfl (.no rfl (.no rfl (.no rfl (.no rfl (.yes (ir := ir373) rfl Try.func64 k373 (.yes (ir := ir374) rfl Try.func65 k374 (.yes (ir := ir375) rfl Try.func66 k375 (.yes (ir := ir376) rfl Try.func67 k376 (.yes (ir := ir377) rfl Try.func68 k377 (.yes (ir := ir378) rfl Try.func69 k378 (.yes (ir := ir379) rfl Try.func70 k379 (.yes (ir := ir380) rfl Try.func71 k380 (.yes (ir := ir381) rfl Try.func72 k381 (.yes (ir := ir382) rfl Try.func73 k382 (.yes (ir := ir383) rfl Try.func74 k383 (.yes (ir := ir384) rfl Try.func75 k384 (.no rfl (.yes (ir := ir385) rfl Try.func77 k385 (.yes (ir := ir386) rfl Try.func78 k386 (.no rfl (.no rfl (.no rfl (.no rfl (.yes (ir := ir391) rfl Try.func83 k391 (.no rfl (.no rfl (.yes (ir := ir394) rfl Try.func86 k394 (.no rfl (.no rfl (.no rfl (.no rfl (.no rfl (.no rfl (.no rfl (.no rfl (.no rfl (.no rfl (.no rfl (.no rfl (.no rfl (.no rfl (.no rfl (.no rfl (.no rfl (.no rfl (.no rfl (.no rfl (.no rfl (.no rfl (.no rfl trivial))))))))))))))))))))))))))))))))))))))))))))))))))))))))))))))))))))))))))))))))))))))))))))))))))))))))))))))
theorem primsOk {B : Prot} {w0 : World} : ∀ f q, prims (gOf gl f) = some q → ∀ args H v H', q args H = some (v, H') → ∀ S, Sub B S → ∀ E w us, HRel (gOf gl) S w0 E H w → VRs (gOf gl) H.next E args us → Back Try.prog (gOf gl) S w0 E H w (callFunc f us.toArray) v H' := by
  intro f q h
  unfold prims at h
  split at h
  · rename_i e
    simp only [Option.some.injEq] at h
    subst h
    have := gOf_at (gl := gl) (i := 80) (by decide) (by decide +kernel) e
    subst this
    exact fun args H v H' hq S _ => cas_back Try.func80 (by kernel_rfl) (by kernel_rfl) (by kernel_rfl) (by kernel_rfl) args H v H' hq S w0
  split at h
  · rename_i e
    simp only [Option.some.injEq] at h
    subst h
    have := gOf_at (gl := gl) (i := 85) (by decide) (by decide +kernel) e
    subst this
    exact fun args H v H' hq S _ => add_back Try.func85 (by kernel_rfl) (by kernel_rfl) (by kernel_rfl) (by kernel_rfl) args H v H' hq S w0
  split at h
  · rename_i e
    simp only [Option.some.injEq] at h
    subst h
    have := gOf_at (gl := gl) (i := 79) (by decide) (by decide +kernel) e
    subst this
    exact fun args H v H' hq S _ => mark0_back (m := .disable) Try.func79 (by kernel_rfl) (by kernel_rfl) (by kernel_rfl) (by kernel_rfl) args H v H' hq S w0
  split at h
  · rename_i e
    simp only [Option.some.injEq] at h
    subst h
    have := gOf_at (gl := gl) (i := 81) (by decide) (by decide +kernel) e
    subst this
    exact fun args H v H' hq S _ => mark0_back (m := .enable) Try.func81 (by kernel_rfl) (by kernel_rfl) (by kernel_rfl) (by kernel_rfl) args H v H' hq S w0
  split at h
  · rename_i e
    simp only [Option.some.injEq] at h
    subst h
    have := gOf_at (gl := gl) (i := 82) (by decide) (by decide +kernel) e
    subst this
    exact fun args H v H' hq S _ => mark_back (m := .acquire) Try.func82 (by kernel_rfl) (by kernel_rfl) (by kernel_rfl) (by kernel_rfl) args H v H' hq S w0
  split at h
  · rename_i e
    simp only [Option.some.injEq] at h
    subst h
    have := gOf_at (gl := gl) (i := 84) (by decide) (by decide +kernel) e
    subst this
    exact fun args H v H' hq S _ => mark_back (m := .releaseMerge) Try.func84 (by kernel_rfl) (by kernel_rfl) (by kernel_rfl) (by kernel_rfl) args H v H' hq S w0
  cases h
theorem primsUp : PrimsUp prims := by
  intro g q h
  unfold prims at h
  split at h
  · simp only [Option.some.injEq] at h; subst h; exact fun args H v H' h => cas_next h
  split at h
  · simp only [Option.some.injEq] at h; subst h; exact fun args H v H' h => add_next h
  split at h
  · simp only [Option.some.injEq] at h; subst h; exact fun args H v H' h => mark0_next h
  split at h
  · simp only [Option.some.injEq] at h; subst h; exact fun args H v H' h => mark0_next h
  split at h
  · simp only [Option.some.injEq] at h; subst h; exact fun args H v H' h => mark_next h
  split at h
  · simp only [Option.some.injEq] at h; subst h; exact fun args H v H' h => mark_next h
  cases h
theorem link {B : Prot} {w0 : World} : Link Try.prog (gOf gl) B w0 (Go.Am.look irs) prims := link_of (by kernel_rfl) (by decide) (by decide) primsUp linked (by exact primsOk)
theorem d320 (ω : Ora) : D320 (tab ω) := ⟨rfl, rfl⟩
theorem d391 (ω : Ora) : D391 (tab ω) := ⟨rfl, rfl, rfl, rfl, rfl, rfl⟩
theorem d385 (ω : Ora) : D385 (tab ω) := ⟨rfl, rfl, rfl, rfl, rfl, rfl, d391 ω⟩
theorem d380 (ω : Ora) : D380 (tab ω) := ⟨rfl, rfl, d385 ω⟩
theorem d394 (ω : Ora) : D394 (tab ω) := ⟨rfl, rfl, rfl⟩
theorem d386 (ω : Ora) : D386 (tab ω) := ⟨rfl, rfl, rfl, rfl, rfl, d394 ω, rfl⟩
theorem d381 (ω : Ora) : D381 (tab ω) := ⟨rfl, rfl, d386 ω⟩
theorem d357 (ω : Ora) : D357 (tab ω) := ⟨rfl, rfl, d380 ω, d381 ω⟩
theorem d343 (ω : Ora) : D343 (tab ω) := ⟨rfl, rfl, d357 ω⟩
theorem d359 (ω : Ora) : D359 (tab ω) := ⟨rfl, rfl⟩
theorem d360 (ω : Ora) : D360 (tab ω) := ⟨rfl, rfl⟩
theorem d324 (ω : Ora) : D324 (tab ω) := ⟨rfl, rfl, d357 ω, d359 ω, d360 ω⟩
theorem d373 (ω : Ora) : D373 (tab ω) := ⟨rfl, rfl, d359 ω⟩
theorem d383 (ω : Ora) : D383 (tab ω) := ⟨rfl, rfl⟩
theorem d374 (ω : Ora) : D374 (tab ω) := ⟨rfl, rfl, d383 ω⟩
theorem d345 (ω : Ora) : D345 (tab ω) := ⟨rfl, rfl, d357 ω, d373 ω, d359 ω, d374 ω⟩
theorem d361 (ω : Ora) : D361 (tab ω) := ⟨rfl, rfl, d383 ω⟩
theorem d325 (ω : Ora) : D325 (tab ω) := ⟨rfl, rfl, d357 ω, d359 ω, d361 ω⟩
theorem d382 (ω : Ora) : D382 (tab ω) := ⟨rfl, rfl, d374 ω⟩
theorem d358 (ω : Ora) : D358 (tab ω) := ⟨rfl, rfl, d360 ω, d382 ω⟩
theorem d339 (ω : Ora) : D339 (tab ω) := ⟨rfl, rfl, d357 ω, d358 ω, d361 ω⟩
theorem d340 (ω : Ora) : D340 (tab ω) := ⟨rfl, rfl, d357 ω, d359 ω⟩
theorem d319 (ω : Ora) : D319 (tab ω) := ⟨rfl, rfl, d320 ω, d343 ω, d324 ω, d345 ω, d325 ω, d339 ω, d340 ω⟩
theorem d347 (ω : Ora) : D347 (tab ω) := ⟨rfl, rfl⟩
theorem d376 (ω : Ora) : D376 (tab ω) := ⟨rfl, rfl⟩
theorem d375 (ω : Ora) : D375 (tab ω) := ⟨rfl, rfl, d376 ω⟩
theorem d378 (ω : Ora) : D378 (tab ω) := ⟨rfl, rfl⟩
theorem d377 (ω : Ora) : D377 (tab ω) := ⟨rfl, rfl, d378 ω⟩
theorem d348 (ω : Ora) : D348 (tab ω) := ⟨rfl, rfl, d375 ω, d376 ω, d377 ω⟩
theorem d346 (ω : Ora) : D346 (tab ω) := ⟨rfl, rfl, d357 ω, d373 ω, d374 ω⟩
theorem d349 (ω : Ora) : D349 (tab ω) := ⟨rfl, rfl, d375 ω, d377 ω⟩
theorem d350 (ω : Ora) : D350 (tab ω) := ⟨rfl, rfl, d376 ω⟩
theorem d351 (ω : Ora) : D351 (tab ω) := ⟨rfl, rfl, d376 ω, d378 ω⟩
theorem d323 (ω : Ora) : D323 (tab ω) := ⟨rfl, rfl, d357 ω, d358 ω⟩
theorem d379 (ω : Ora) : D379 (tab ω) := ⟨rfl, rfl, d377 ω⟩
theorem d352 (ω : Ora) : D352 (tab ω) := ⟨rfl, rfl, d378 ω, d379 ω⟩
theorem d353 (ω : Ora) : D353 (tab ω) := ⟨rfl, rfl, d352 ω, d351 ω⟩
theorem d135 (ω : Ora) : D135 (tab ω) := ⟨rfl, rfl⟩
theorem d321 (ω : Ora) : D321 (tab ω) := ⟨rfl, rfl, d343 ω, d347 ω, d345 ω, d348 ω, d346 ω, d349 ω, d324 ω, d350 ω, d325 ω, d351 ω, d323 ω, d352 ω, d339 ω, d353 ω, d135 ω⟩
theorem d362 (ω : Ora) : D362 (tab ω) := ⟨rfl, rfl⟩
theorem d328 (ω : Ora) : D328 (tab ω) := ⟨rfl, rfl, d357 ω, d362 ω, rfl, ⟨ω, rfl⟩⟩
theorem d329 (ω : Ora) : D329 (tab ω) := ⟨rfl, rfl⟩
theorem d363 (ω : Ora) : D363 (tab ω) := ⟨rfl, rfl⟩
theorem d384 (ω : Ora) : D384 (tab ω) := ⟨rfl, rfl⟩
theorem d364 (ω : Ora) : D364 (tab ω) := ⟨rfl, rfl, d384 ω⟩
theorem d365 (ω : Ora) : D365 (tab ω) := ⟨rfl, rfl⟩
theorem d330 (ω : Ora) : D330 (tab ω) := ⟨rfl, rfl, d328 ω, rfl, ⟨ω, rfl⟩, d363 ω, d364 ω, d365 ω⟩
theorem d341 (ω : Ora) : D341 (tab ω) := ⟨rfl, rfl, d357 ω, d359 ω⟩
theorem d354 (ω : Ora) : D354 (tab ω) := ⟨rfl, rfl, d378 ω⟩
theorem d355 (ω : Ora) : D355 (tab ω) := ⟨rfl, rfl⟩
theorem d344 (ω : Ora) : D344 (tab ω) := ⟨rfl, rfl, d357 ω, d373 ω⟩
theorem d356 (ω : Ora) : D356 (tab ω) := ⟨rfl, rfl, d375 ω⟩
theorem d322 (ω : Ora) : D322 (tab ω) := ⟨rfl, rfl, d341 ω, d354 ω, d340 ω, d355 ω, d344 ω, d356 ω⟩
theorem d331 (ω : Ora) : D331 (tab ω) := ⟨rfl, rfl⟩
theorem d315 (ω : Ora) : D315 (tab ω) := ⟨rfl, rfl, d319 ω, d320 ω, d321 ω, d328 ω, d329 ω, d330 ω, d322 ω, d331 ω⟩
theorem own : ownKnob Try.prog.godebug = none := by kernel_rfl
theorem lifted (os : Os) (started : os.Started) (H : Type) (enc : TypeId × Value → H) :
    ReturnsInHanded {} Try.checked os 5 .any (Rows.heapCopiesSpec.pre6 enc Try.prog Try.f5 Rows.heapCopiesRow.domain false) (Rows.heapCopiesSpec.post enc Try.prog Try.f5 false true false false) := by
  refine returnsInHanded_of_change (C := Try.checked) own started (by kernel_rfl) Try.func5
    (ChangeSpec.witness6 (enc := enc) (C := Try.checked) false ⟨#[], #[.slice none 0 0, .slice none 0 0], []⟩ 8 (by kernel_rfl) (by kernel_rfl) (by kernel_rfl) (by kernel_rfl)) ?_
  intro W base args ds gs before hval hW hcnd _
  exact row_contract (G := gOf gl) (n := 12) (ss := [.slice shA, .slice shA]) (tb := 4) link (f := 5) (ir := ir315) rfl (by kernel_rfl) (by kernel_rfl) (by kernel_rfl) rfl (by kernel_rfl) Try.underlying4 hval hW
    (fun hl => by
      have hp : Try.f5.params.toList.length = 2 := by kernel_rfl
      rw [hp] at hl
      refine match ds, hl with
      | [d1, d2], _ => ?_
      rfl) (fun ω K vs hw hg => law315 (d315 ω) hw hg)
theorem over : Rows.heapCopiesRow.holds Try.pinned (OpenSpec.ofChange Rows.heapCopiesSpec) :=
  OpenClaim.holds_of_wide 5 Try.f5 rfl rfl rfl rfl rfl rfl rfl ⟨rfl, rfl, rfl, rfl, rfl⟩ rfl rfl rfl rfl rfl (by kernel_rfl) Try.func5 (by kernel_rfl)
    (of_decide_eq_true (by kernel_rfl)) (by unfold Func.isWrapper; first | (rw [if_pos (by decide +kernel)]; kernel_rfl) | (rw [if_neg (by decide +kernel)]; exact ⟨rfl, rfl⟩))
    (fun os started H enc _ => lifted os started H enc)
end HeapCopies_
/-- THE STATEMENT. -/
theorem heapCopies_proved : Rows.HeapCopiesSaid := HeapCopies_.over
#print axioms heapCopies_proved
end Go.Proofs.Ytpdedphkjkhddaa
