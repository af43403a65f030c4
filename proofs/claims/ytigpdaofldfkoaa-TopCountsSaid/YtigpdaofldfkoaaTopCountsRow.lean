/- The row of TopCounts: the functions that it reaches are those of the small machine, and what the small machine gives goes into the statement. Printed by mkrow.py. -/
import Derived.Test.YtigpdaofldfkoaaRows
import Derived.Test.YtigpdaofldfkoaaAmTopF
import Derived.Test.YtigpdaofldfkoaaAmPrimA
import Derived.Test.YtigpdaofldfkoaaAmPrim
set_option linter.unusedVariables false
set_option maxRecDepth 100000
namespace Go.Proofs.Ytigpdaofldfkoaa
namespace TopCounts_
open Go.Am Go.RowKit Go.ChangeShapes
def gl : List Nat := [100,101,102,531,320,532,533,334,534,341,340,343,324,535,345,346,325,323,536,339,344,357,367,366,337,359,360,373,374,361,358,380,381,370,371,383,382,385,386,173,387,388,389,390,391,392,393,394,395,396,397,398,399,400,401,216,217,218,219,220,221,222,223,224,225,226,227,228,229,230,231]
def irs : List (Nat × AFunc) := [(320, ir320), (391, ir391), (385, ir385), (380, ir380), (394, ir394), (386, ir386), (381, ir381), (357, ir357), (343, ir343), (359, ir359), (373, ir373), (383, ir383), (374, ir374), (345, ir345), (346, ir346), (360, ir360), (324, ir324), (361, ir361), (325, ir325), (382, ir382), (358, ir358), (323, ir323), (536, ir536), (339, ir339), (532, ir532), (340, ir340), (344, ir344), (341, ir341), (533, ir533), (173, ir173), (371, ir371), (370, ir370), (367, ir367), (366, ir366), (334, ir334), (337, ir337), (534, ir534), (535, ir535), (531, ir531)]
def prims : Nat → Option (List AV → AHeap → Option (AV × AHeap)) := fun g => if g = 388 then some casPrim else if g = 393 then some addPrim else if g = 387 then some mark0Prim else if g = 389 then some mark0Prim else if g = 390 then some markPrim else if g = 392 then some markPrim else none
def tab (ω : Ora) : Tab := otab (Go.Am.look irs) prims ω
theorem k320 : compileFn Try.prog (gOf gl) Try.f4 = some ir320 := by kernel_rfl
theorem k391 : compileFn Try.prog (gOf gl) Try.f44 = some ir391 := by kernel_rfl
theorem k385 : compileFn Try.prog (gOf gl) Try.f37 = some ir385 := by kernel_rfl
theorem k380 : compileFn Try.prog (gOf gl) Try.f31 = some ir380 := by kernel_rfl
theorem k394 : compileFn Try.prog (gOf gl) Try.f47 = some ir394 := by kernel_rfl
theorem k386 : compileFn Try.prog (gOf gl) Try.f38 = some ir386 := by kernel_rfl
theorem k381 : compileFn Try.prog (gOf gl) Try.f32 = some ir381 := by kernel_rfl
theorem k357 : compileFn Try.prog (gOf gl) Try.f21 = some ir357 := by kernel_rfl
theorem k343 : compileFn Try.prog (gOf gl) Try.f11 = some ir343 := by kernel_rfl
theorem k359 : compileFn Try.prog (gOf gl) Try.f25 = some ir359 := by kernel_rfl
theorem k373 : compileFn Try.prog (gOf gl) Try.f27 = some ir373 := by kernel_rfl
theorem k383 : compileFn Try.prog (gOf gl) Try.f35 = some ir383 := by kernel_rfl
theorem k374 : compileFn Try.prog (gOf gl) Try.f28 = some ir374 := by kernel_rfl
theorem k345 : compileFn Try.prog (gOf gl) Try.f14 = some ir345 := by kernel_rfl
theorem k346 : compileFn Try.prog (gOf gl) Try.f15 = some ir346 := by kernel_rfl
theorem k360 : compileFn Try.prog (gOf gl) Try.f26 = some ir360 := by kernel_rfl
theorem k324 : compileFn Try.prog (gOf gl) Try.f12 = some ir324 := by kernel_rfl
theorem k361 : compileFn Try.prog (gOf gl) Try.f29 = some ir361 := by kernel_rfl
theorem k325 : compileFn Try.prog (gOf gl) Try.f16 = some ir325 := by kernel_rfl
theorem k382 : compileFn Try.prog (gOf gl) Try.f36 = some ir382 := by kernel_rfl
theorem k358 : compileFn Try.prog (gOf gl) Try.f30 = some ir358 := by kernel_rfl
theorem k323 : compileFn Try.prog (gOf gl) Try.f17 = some ir323 := by kernel_rfl
theorem k536 : compileFn Try.prog (gOf gl) Try.f18 = some ir536 := by kernel_rfl
theorem k339 : compileFn Try.prog (gOf gl) Try.f19 = some ir339 := by kernel_rfl
theorem k532 : compileFn Try.prog (gOf gl) Try.f5 = some ir532 := by kernel_rfl
theorem k340 : compileFn Try.prog (gOf gl) Try.f10 = some ir340 := by kernel_rfl
theorem k344 : compileFn Try.prog (gOf gl) Try.f20 = some ir344 := by kernel_rfl
theorem k341 : compileFn Try.prog (gOf gl) Try.f9 = some ir341 := by kernel_rfl
theorem k533 : compileFn Try.prog (gOf gl) Try.f6 = some ir533 := by kernel_rfl
theorem k173 : compileFn Try.prog (gOf gl) Try.f39 = some ir173 := by kernel_rfl
theorem k371 : compileFn Try.prog (gOf gl) Try.f34 = some ir371 := by kernel_rfl
theorem k370 : compileFn Try.prog (gOf gl) Try.f33 = some ir370 := by kernel_rfl
theorem k367 : compileFn Try.prog (gOf gl) Try.f22 = some ir367 := by kernel_rfl
theorem k366 : compileFn Try.prog (gOf gl) Try.f23 = some ir366 := by kernel_rfl
theorem k334 : compileFn Try.prog (gOf gl) Try.f7 = some ir334 := by kernel_rfl
theorem k337 : compileFn Try.prog (gOf gl) Try.f24 = some ir337 := by kernel_rfl
theorem k534 : compileFn Try.prog (gOf gl) Try.f8 = some ir534 := by kernel_rfl
theorem k535 : compileFn Try.prog (gOf gl) Try.f13 = some ir535 := by kernel_rfl
theorem k531 : compileFn Try.prog (gOf gl) Try.f3 = some ir531 := by kernel_rfl
theorem linked : Linked Try.prog (gOf gl) irs 0 gl := (.no rfl (.no rfl (.no rfl (.yes (ir := ir531) rfl Try.func3 k531 (.yes (ir := ir320) rfl Try.func4 k320 (.yes (ir := ir532) rfl Try.func5 k532 (.yes (ir := ir533) rfl Try.func6 k533 (.yes (ir := ir334) rfl Try.func7 k334 (.yes (ir := ir534) rfl Try.func8 k534 (.yes (ir := ir341) rfl Try.func9 k341 (.yes (ir := ir340) rfl Try.func10 k340 (.yes (ir := ir343) rfl Try.func11 k343 (.yes (ir := ir324) rfl Try.func12 k324 (.yes (ir := ir535) rfl Try.func13 k535 (.yes (ir := ir345) rfl Try.func14 k345 (.yes (ir := ir346) rfl Try.func15 k346 (.yes (ir := ir325) rfl Try.func16 k325 (.yes (ir := ir323) rfl Try.func17 k323 (.yes (ir := ir536) rfl Try.func18 k536 (.yes (ir := ir339) rfl Try.func19 k339 (.yes (ir := ir344) rfl Try.func20 k344 (.yes (ir := ir357) rfl Try.func21 k357 (.yes (ir := ir367) rfl Try.func22 k367 (.yes (ir := ir366) rfl Try.func23 k366 (.yes (ir := ir337) rfl Try.func24 k337 (.yes (ir := ir359) rfl Try.func25 k359 (.yes (ir := ir360) rfl Try.func26 k360 (.yes (ir := ir373) rfl Try.func27 k373 (.yes (ir := ir374) rfl Try.func28 k374 (.yes (ir := ir361) rfl Try.func29 k361 (.yes (ir := ir358) rfl Try.func30 k358 (.yes (ir := ir380) rfl Try.func31 k380 (.yes (ir := ir381) rfl Try.func32 k381 (.yes (ir := ir370) rfl Try.func33 k370 (.yes (ir := ir371) rfl Try.func34 k371 (.yes (ir := ir383) rfl Try.func35 k383 (.yes (ir := ir382) rfl Try.func36 k382 (.yes (ir := ir385) rfl Try.func37 k385 (.yes (ir := ir386) rfl Try.func38 k386 (.yes (ir := ir173) rfl Try.func39 k173 (.no rfl (.no rfl (.no rfl (.no rfl (.yes (ir := ir391) rfl Try.func44 k391 (.no rfl (.no rfl (.yes (ir := ir394) rfl Try.func47 k394 (.no rfl (.no rfl (.no rfl (.no rfl (.no rfl (.no rfl (.no rfl (.no rfl (.no rfl (.no rfl (.no rfl (.no rfl (.no rfl (.no rfl (.no rfl (.no rfl (.no rfl (.no rfl (.no rfl (.no rfl (.no rfl (.no rfl (.no rfl trivial)))))))))))))))))))))))))))))))))))))))))))))))))))))))))))))))))))))))
theorem primsOk {B : Prot} {w0 : World} : ∀ f q, prims (gOf gl f) = some q → ∀ args H v H', q args H = some (v, H') → ∀ S, Sub B S → ∀ E w us, HRel (gOf gl) S w0 E H w → VRs (gOf gl) H.next E args us → Back Try.prog (gOf gl) S w0 E H w (callFunc f us.toArray) v H' := by
  intro f q h
  unfold prims at h
  split at h
  · rename_i e
    simp only [Option.some.injEq] at h
    subst h
    have := gOf_at (gl := gl) (i := 41) (by decide) (by decide +kernel) e
    subst this
    exact fun args H v H' hq S _ => cas_back Try.func41 (by kernel_rfl) (by kernel_rfl) (by kernel_rfl) (by kernel_rfl) args H v H' hq S w0
  split at h
  · rename_i e
    simp only [Option.some.injEq] at h
    subst h
    have := gOf_at (gl := gl) (i := 46) (by decide) (by decide +kernel) e
    subst this
    exact fun args H v H' hq S _ => add_back Try.func46 (by kernel_rfl) (by kernel_rfl) (by kernel_rfl) (by kernel_rfl) args H v H' hq S w0
  split at h
  · rename_i e
    simp only [Option.some.injEq] at h
    subst h
    have := gOf_at (gl := gl) (i := 40) (by decide) (by decide +kernel) e
    subst this
    exact fun args H v H' hq S _ => mark0_back (m := .disable) Try.func40 (by kernel_rfl) (by kernel_rfl) (by kernel_rfl) (by kernel_rfl) args H v H' hq S w0
  split at h
  · rename_i e
    simp only [Option.some.injEq] at h
    subst h
    have := gOf_at (gl := gl) (i := 42) (by decide) (by decide +kernel) e
    subst this
    exact fun args H v H' hq S _ => mark0_back (m := .enable) Try.func42 (by kernel_rfl) (by kernel_rfl) (by kernel_rfl) (by kernel_rfl) args H v H' hq S w0
  split at h
  · rename_i e
    simp only [Option.some.injEq] at h
    subst h
    have := gOf_at (gl := gl) (i := 43) (by decide) (by decide +kernel) e
    subst this
    exact fun args H v H' hq S _ => mark_back (m := .acquire) Try.func43 (by kernel_rfl) (by kernel_rfl) (by kernel_rfl) (by kernel_rfl) args H v H' hq S w0
  split at h
  · rename_i e
    simp only [Option.some.injEq] at h
    subst h
    have := gOf_at (gl := gl) (i := 45) (by decide) (by decide +kernel) e
    subst this
    exact fun args H v H' hq S _ => mark_back (m := .releaseMerge) Try.func45 (by kernel_rfl) (by kernel_rfl) (by kernel_rfl) (by kernel_rfl) args H v H' hq S w0
  cases h
theorem primsUp : PrimsUp prims := by
  intro g q h
  unfold prims at h
  split at h
  · simp only [Option.some.injEq] at h; subst h; exact fun args H v H' h => cas_next h
  split at h
  · simp only [Option.some.injEq] at h; subst h; exact fun args H v H' h => add_next h
  split at h
  · simp only [Option.some.injEq] at h; subst h; exact fun args H v H' h => mark0_next h
  split at h
  · simp only [Option.some.injEq] at h; subst h; exact fun args H v H' h => mark0_next h
  split at h
  · simp only [Option.some.injEq] at h; subst h; exact fun args H v H' h => mark_next h
  split at h
  · simp only [Option.some.injEq] at h; subst h; exact fun args H v H' h => mark_next h
  cases h
theorem link {B : Prot} {w0 : World} : Link Try.prog (gOf gl) B w0 (Go.Am.look irs) prims := link_of (by kernel_rfl) (by decide) (by decide) primsUp linked (by exact primsOk)
theorem d320 (ω : Ora) : D320 (tab ω) := ⟨rfl, rfl⟩
theorem d391 (ω : Ora) : D391 (tab ω) := ⟨rfl, rfl, rfl, rfl, rfl, rfl⟩
theorem d385 (ω : Ora) : D385 (tab ω) := ⟨rfl, rfl, rfl, rfl, rfl, rfl, d391 ω⟩
theorem d380 (ω : Ora) : D380 (tab ω) := ⟨rfl, rfl, d385 ω⟩
theorem d394 (ω : Ora) : D394 (tab ω) := ⟨rfl, rfl, rfl⟩
theorem d386 (ω : Ora) : D386 (tab ω) := ⟨rfl, rfl, rfl, rfl, rfl, d394 ω, rfl⟩
theorem d381 (ω : Ora) : D381 (tab ω) := ⟨rfl, rfl, d386 ω⟩
theorem d357 (ω : Ora) : D357 (tab ω) := ⟨rfl, rfl, d380 ω, d381 ω⟩
theorem d343 (ω : Ora) : D343 (tab ω) := ⟨rfl, rfl, d357 ω⟩
theorem d359 (ω : Ora) : D359 (tab ω) := ⟨rfl, rfl⟩
theorem d373 (ω : Ora) : D373 (tab ω) := ⟨rfl, rfl, d359 ω⟩
theorem d383 (ω : Ora) : D383 (tab ω) := ⟨rfl, rfl⟩
theorem d374 (ω : Ora) : D374 (tab ω) := ⟨rfl, rfl, d383 ω⟩
theorem d345 (ω : Ora) : D345 (tab ω) := ⟨rfl, rfl, d357 ω, d373 ω, d359 ω, d374 ω⟩
theorem d346 (ω : Ora) : D346 (tab ω) := ⟨rfl, rfl, d357 ω, d373 ω, d374 ω⟩
theorem d360 (ω : Ora) : D360 (tab ω) := ⟨rfl, rfl⟩
theorem d324 (ω : Ora) : D324 (tab ω) := ⟨rfl, rfl, d357 ω, d359 ω, d360 ω⟩
theorem d361 (ω : Ora) : D361 (tab ω) := ⟨rfl, rfl, d383 ω⟩
theorem d325 (ω : Ora) : D325 (tab ω) := ⟨rfl, rfl, d357 ω, d359 ω, d361 ω⟩
theorem d382 (ω : Ora) : D382 (tab ω) := ⟨rfl, rfl, d374 ω⟩
theorem d358 (ω : Ora) : D358 (tab ω) := ⟨rfl, rfl, d360 ω, d382 ω⟩
theorem d323 (ω : Ora) : D323 (tab ω) := ⟨rfl, rfl, d357 ω, d358 ω⟩
theorem d536 (ω : Ora) : D536 (tab ω) := ⟨rfl, rfl⟩
theorem d339 (ω : Ora) : D339 (tab ω) := ⟨rfl, rfl, d357 ω, d358 ω, d361 ω⟩
theorem d532 (ω : Ora) : D532 (tab ω) := ⟨rfl, rfl, d343 ω, d345 ω, d346 ω, d324 ω, d325 ω, d323 ω, d536 ω, d339 ω⟩
theorem d340 (ω : Ora) : D340 (tab ω) := ⟨rfl, rfl, d357 ω, d359 ω⟩
theorem d344 (ω : Ora) : D344 (tab ω) := ⟨rfl, rfl, d357 ω, d373 ω⟩
theorem d341 (ω : Ora) : D341 (tab ω) := ⟨rfl, rfl, d357 ω, d359 ω⟩
theorem d533 (ω : Ora) : D533 (tab ω) := ⟨rfl, rfl, d340 ω, d344 ω, d341 ω⟩
theorem d173 (ω : Ora) : D173 (tab ω) := ⟨rfl, rfl⟩
theorem d371 (ω : Ora) : D371 (tab ω) := ⟨rfl, rfl⟩
theorem d370 (ω : Ora) : D370 (tab ω) := ⟨rfl, rfl, d173 ω, d371 ω⟩
theorem d367 (ω : Ora) : D367 (tab ω) := ⟨rfl, rfl, rfl, ⟨ω, rfl⟩, d370 ω⟩
theorem d366 (ω : Ora) : D366 (tab ω) := ⟨rfl, rfl⟩
theorem d334 (ω : Ora) : D334 (tab ω) := ⟨rfl, rfl, d357 ω, d367 ω, d366 ω⟩
theorem d337 (ω : Ora) : D337 (tab ω) := ⟨rfl, rfl, d357 ω, d371 ω, d370 ω⟩
theorem d534 (ω : Ora) : D534 (tab ω) := ⟨rfl, rfl, d337 ω, d344 ω⟩
theorem d535 (ω : Ora) : D535 (tab ω) := ⟨rfl, rfl, d320 ω, d343 ω, d324 ω, d341 ω, d325 ω, d339 ω⟩
theorem d531 (ω : Ora) : D531 (tab ω) := ⟨rfl, rfl, d320 ω, d532 ω, d533 ω, d334 ω, d534 ω, d341 ω, d340 ω, d343 ω, d324 ω, d535 ω⟩
theorem own : ownKnob Try.prog.godebug = none := by kernel_rfl
theorem lifted (os : Os) (started : os.Started) (H : Type) (enc : TypeId × Value → H) :
    ReturnsInHanded {} Try.checked os 3 .any (Rows.topCountsSpec.pre6 enc Try.prog Try.f3 Rows.topCountsRow.domain false) (Rows.topCountsSpec.post enc Try.prog Try.f3 false true false false) := by
  refine returnsInHanded_of_change (C := Try.checked) own started (by kernel_rfl) Try.func3
    (ChangeSpec.witness6 (enc := enc) (C := Try.checked) false ⟨#[], #[.slice none 0 0], []⟩ 8 (by kernel_rfl) (by kernel_rfl) (by kernel_rfl) (by kernel_rfl)) ?_
  intro W base args ds gs before hval hW hcnd _
  exact row_contract (G := gOf gl) (n := 12) (ss := [.slice shA]) (tb := 4) link (f := 3) (ir := ir531) rfl (by kernel_rfl) (by kernel_rfl) (by kernel_rfl) rfl (by kernel_rfl) Try.underlying4 hval hW
    (fun hl => by
      have hp : Try.f3.params.toList.length = 1 := by kernel_rfl
      rw [hp] at hl
      refine match ds, hl with
      | [d1], _ => ?_
      rfl) (fun ω K vs hw hg => law531 (d531 ω) hw hg)
theorem over : Rows.topCountsRow.holds Try.pinned (OpenSpec.ofChange Rows.topCountsSpec) :=
  OpenClaim.holds_of_wide 3 Try.f3 rfl rfl rfl rfl rfl rfl rfl ⟨rfl, rfl, rfl, rfl, rfl⟩ rfl rfl rfl rfl rfl (by kernel_rfl) Try.func3 (by kernel_rfl)
    (of_decide_eq_true (by kernel_rfl)) (by unfold Func.isWrapper; first | (rw [if_pos (by decide +kernel)]; kernel_rfl) | (rw [if_neg (by decide +kernel)]; exact ⟨rfl, rfl⟩))
    (fun os started H enc _ => lifted os started H enc)
end TopCounts_
/-- THE STATEMENT. -/
theorem topCounts_proved : Rows.TopCountsSaid := TopCounts_.over
#print axioms topCounts_proved
end Go.Proofs.Ytigpdaofldfkoaa
