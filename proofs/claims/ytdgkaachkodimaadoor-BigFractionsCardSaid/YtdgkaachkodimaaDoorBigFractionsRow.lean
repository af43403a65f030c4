/- The row of BigFractions: the functions that it reaches are those of the small machine, and what the small machine gives goes into the statement. Printed by mkrow.py. -/
import Derived.Test.YtdgkaachkodimaaDoorRows
import Derived.Test.YtdgkaachkodimaaDoorCards
import Derived.Test.YtdgkaachkodimaaDoorTie
import Derived.Deep.DeepHandedRow
import Derived.Lib.LaidTab
import Derived.SevenTiedAt
import Derived.Test.YtdgkaachkodimaaDoorAmLawH
import Derived.Test.YtdgkaachkodimaaDoorAmSimsA
set_option linter.unusedVariables false
set_option maxRecDepth 100000
namespace Go.Proofs.YtdgkaachkodimaaDoor
namespace BigFractions_
open Go.Am Go.RowKit Go.ChangeShapes
def gl : List Nat := [100,101,102,402,403,404,405,406,407,408,409,410,411,412,413,414,415,416,417,418,419,420,421,422,423,424,425,426,427,428,429,430,431,432,433,434,435,436,437,438,439,440,441,442,443,444,445,446,447,448,449,450,451,452,453,454,455,456,457,458,459,460,461,462,463,261,464,465,466,467,468,469,470,471,472,473,474,475,476,477,478,479,480,481,482,483,484,485,486,487,488,489,490,491,492,493,494,495,264,496,497,498,499,500,501,502,178,266,503,504,505,506,507,508,509,510,511,192,256,512,513,514,515,516,517,518,519,520,521,522,523,524,216,217,218,219,220,221,222,223,224,225,226,227,228,229,230,268,231,307,311,525,526,312]
def irs : List (Nat × AFunc) := [(411, ir411), (501, ir501), (490, ir490), (491, ir491), (256, ir256), (504, ir504), (498, ir498), (506, ir506), (505, ir505), (507, ir507), (512, ir512), (509, ir509), (508, ir508), (499, ir499), (482, ir482), (456, ir456), (457, ir457), (458, ir458), (192, ir192), (178, ir178), (494, ir494), (461, ir461), (502, ir502), (492, ir492), (493, ir493), (477, ir477), (459, ir459), (473, ir473), (495, ir495), (462, ir462), (487, ir487), (460, ir460), (470, ir470), (466, ir466), (264, ir264), (463, ir463), (261, ir261), (474, ir474), (467, ir467), (416, ir416), (503, ir503), (497, ir497), (478, ir478), (468, ir468), (481, ir481), (500, ir500), (486, ir486), (436, ir436), (414, ir414), (472, ir472), (420, ir420), (412, ir412), (421, ir421), (447, ir447), (453, ir453), (448, ir448), (449, ir449), (454, ir454), (452, ir452), (496, ir496), (475, ir475), (489, ir489), (451, ir451), (485, ir485), (476, ir476), (450, ir450), (455, ir455), (413, ir413), (402, ir402)]
def prims : Nat → Option (List AV → AHeap → Option (AV × AHeap)) := fun g => if g = 266 then some noEscPrim else none
def tab (ω : Ora) : Tab := otab (Go.Am.look irs) prims ω
theorem k411 : compileFn Tryd.prog (gOf gl) Tryd.f12 = some ir411 := by kernel_rfl
theorem k501 : compileFn Tryd.prog (gOf gl) Tryd.f104 = some ir501 := by kernel_rfl
theorem k490 : compileFn Tryd.prog (gOf gl) Tryd.f92 = some ir490 := by kernel_rfl
theorem k491 : compileFn Tryd.prog (gOf gl) Tryd.f93 = some ir491 := by kernel_rfl
theorem k256 : compileFn Tryd.prog (gOf gl) Tryd.f118 = some ir256 := by kernel_rfl
theorem k504 : compileFn Tryd.prog (gOf gl) Tryd.f109 = some ir504 := by kernel_rfl
theorem k498 : compileFn Tryd.prog (gOf gl) Tryd.f101 = some ir498 := by kernel_rfl
theorem k506 : compileFn Tryd.prog (gOf gl) Tryd.f111 = some ir506 := by kernel_rfl
theorem k505 : compileFn Tryd.prog (gOf gl) Tryd.f110 = some ir505 := by kernel_rfl
theorem k507 : compileFn Tryd.prog (gOf gl) Tryd.f112 = some ir507 := by kernel_rfl
theorem k512 : compileFn Tryd.prog (gOf gl) Tryd.f119 = some ir512 := by kernel_rfl
theorem k509 : compileFn Tryd.prog (gOf gl) Tryd.f114 = some ir509 := by kernel_rfl
theorem k508 : compileFn Tryd.prog (gOf gl) Tryd.f113 = some ir508 := by kernel_rfl
theorem k499 : compileFn Tryd.prog (gOf gl) Tryd.f102 = some ir499 := by kernel_rfl
theorem k482 : compileFn Tryd.prog (gOf gl) Tryd.f84 = some ir482 := by kernel_rfl
theorem k456 : compileFn Tryd.prog (gOf gl) Tryd.f57 = some ir456 := by kernel_rfl
theorem k457 : compileFn Tryd.prog (gOf gl) Tryd.f58 = some ir457 := by kernel_rfl
theorem k458 : compileFn Tryd.prog (gOf gl) Tryd.f59 = some ir458 := by kernel_rfl
theorem k192 : compileFn Tryd.prog (gOf gl) Tryd.f117 = some ir192 := by kernel_rfl
theorem k178 : compileFn Tryd.prog (gOf gl) Tryd.f106 = some ir178 := by kernel_rfl
theorem k494 : compileFn Tryd.prog (gOf gl) Tryd.f96 = some ir494 := by kernel_rfl
theorem k461 : compileFn Tryd.prog (gOf gl) Tryd.f62 = some ir461 := by kernel_rfl
theorem k502 : compileFn Tryd.prog (gOf gl) Tryd.f105 = some ir502 := by kernel_rfl
theorem k492 : compileFn Tryd.prog (gOf gl) Tryd.f94 = some ir492 := by kernel_rfl
theorem k493 : compileFn Tryd.prog (gOf gl) Tryd.f95 = some ir493 := by kernel_rfl
theorem k477 : compileFn Tryd.prog (gOf gl) Tryd.f79 = some ir477 := by kernel_rfl
theorem k459 : compileFn Tryd.prog (gOf gl) Tryd.f60 = some ir459 := by kernel_rfl
theorem k473 : compileFn Tryd.prog (gOf gl) Tryd.f75 = some ir473 := by kernel_rfl
theorem k495 : compileFn Tryd.prog (gOf gl) Tryd.f97 = some ir495 := by kernel_rfl
theorem k462 : compileFn Tryd.prog (gOf gl) Tryd.f63 = some ir462 := by kernel_rfl
theorem k487 : compileFn Tryd.prog (gOf gl) Tryd.f89 = some ir487 := by kernel_rfl
theorem k460 : compileFn Tryd.prog (gOf gl) Tryd.f61 = some ir460 := by kernel_rfl
theorem k470 : compileFn Tryd.prog (gOf gl) Tryd.f72 = some ir470 := by kernel_rfl
theorem k466 : compileFn Tryd.prog (gOf gl) Tryd.f68 = some ir466 := by kernel_rfl
theorem k264 : compileFn Tryd.prog (gOf gl) Tryd.f98 = some ir264 := by kernel_rfl
theorem k463 : compileFn Tryd.prog (gOf gl) Tryd.f64 = some ir463 := by kernel_rfl
theorem k261 : compileFn Tryd.prog (gOf gl) Tryd.f65 = some ir261 := by kernel_rfl
theorem k474 : compileFn Tryd.prog (gOf gl) Tryd.f76 = some ir474 := by kernel_rfl
theorem k467 : compileFn Tryd.prog (gOf gl) Tryd.f69 = some ir467 := by kernel_rfl
theorem k416 : compileFn Tryd.prog (gOf gl) Tryd.f17 = some ir416 := by kernel_rfl
theorem k503 : compileFn Tryd.prog (gOf gl) Tryd.f108 = some ir503 := by kernel_rfl
theorem k497 : compileFn Tryd.prog (gOf gl) Tryd.f100 = some ir497 := by kernel_rfl
theorem k478 : compileFn Tryd.prog (gOf gl) Tryd.f80 = some ir478 := by kernel_rfl
theorem k468 : compileFn Tryd.prog (gOf gl) Tryd.f70 = some ir468 := by kernel_rfl
theorem k481 : compileFn Tryd.prog (gOf gl) Tryd.f83 = some ir481 := by kernel_rfl
theorem k500 : compileFn Tryd.prog (gOf gl) Tryd.f103 = some ir500 := by kernel_rfl
theorem k486 : compileFn Tryd.prog (gOf gl) Tryd.f88 = some ir486 := by kernel_rfl
theorem k436 : compileFn Tryd.prog (gOf gl) Tryd.f37 = some ir436 := by kernel_rfl
theorem k414 : compileFn Tryd.prog (gOf gl) Tryd.f15 = some ir414 := by kernel_rfl
theorem k472 : compileFn Tryd.prog (gOf gl) Tryd.f74 = some ir472 := by kernel_rfl
theorem k420 : compileFn Tryd.prog (gOf gl) Tryd.f21 = some ir420 := by kernel_rfl
theorem k412 : compileFn Tryd.prog (gOf gl) Tryd.f13 = some ir412 := by kernel_rfl
theorem k421 : compileFn Tryd.prog (gOf gl) Tryd.f22 = some ir421 := by kernel_rfl
theorem k447 : compileFn Tryd.prog (gOf gl) Tryd.f48 = some ir447 := by kernel_rfl
theorem k453 : compileFn Tryd.prog (gOf gl) Tryd.f54 = some ir453 := by kernel_rfl
theorem k448 : compileFn Tryd.prog (gOf gl) Tryd.f49 = some ir448 := by kernel_rfl
theorem k449 : compileFn Tryd.prog (gOf gl) Tryd.f50 = some ir449 := by kernel_rfl
theorem k454 : compileFn Tryd.prog (gOf gl) Tryd.f55 = some ir454 := by kernel_rfl
theorem k452 : compileFn Tryd.prog (gOf gl) Tryd.f53 = some ir452 := by kernel_rfl
theorem k496 : compileFn Tryd.prog (gOf gl) Tryd.f99 = some ir496 := by kernel_rfl
theorem k475 : compileFn Tryd.prog (gOf gl) Tryd.f77 = some ir475 := by kernel_rfl
theorem k489 : compileFn Tryd.prog (gOf gl) Tryd.f91 = some ir489 := by kernel_rfl
theorem k451 : compileFn Tryd.prog (gOf gl) Tryd.f52 = some ir451 := by kernel_rfl
theorem k485 : compileFn Tryd.prog (gOf gl) Tryd.f87 = some ir485 := by kernel_rfl
theorem k476 : compileFn Tryd.prog (gOf gl) Tryd.f78 = some ir476 := by kernel_rfl
theorem k450 : compileFn Tryd.prog (gOf gl) Tryd.f51 = some ir450 := by kernel_rfl
theorem k455 : compileFn Tryd.prog (gOf gl) Tryd.f56 = some ir455 := by kernel_rfl
theorem k413 : compileFn Tryd.prog (gOf gl) Tryd.f14 = some ir413 := by kernel_rfl
theorem k402 : compileFn Tryd.prog (gOf gl) Tryd.f3 = some ir402 := by kernel_rfl
theorem linked : Linked Tryd.prog (gOf gl) irs 0 gl := (.no rfl (.no rfl (.no rfl (.yes (ir := ir402) rfl Tryd.func3 k402 (.no rfl (.no rfl (.no rfl (.no rfl (.no rfl (.no rfl (.no rfl (.no rfl (.yes (ir := ir411) rfl Tryd.func12 k411 (.yes (ir := ir412) rfl Tryd.func13 k412 (.yes (ir := ir413) rfl Tryd.func14 k413 (.yes (ir := ir414) rfl Tryd.func15 k414 (.no rfl (.yes (ir := ir416) rfl Tryd.func17 k416 (.no rfl (.no rfl (.no rfl (.yes (ir := ir420) rfl Tryd.func21 k420 (.yes (ir := ir421) rfl Tryd.func22 k421 (.no rfl (.no rfl (.no rfl (.no rfl (.no rfl (.no rfl (.no rfl (.no rfl (.no rfl (.no rfl (.no rfl (.no rfl (.no rfl (.no rfl (.yes (ir := ir436) rfl Tryd.func37 k436 (.no rfl (.no rfl (.no rfl (.no rfl (.no rfl (.no rfl (.no rfl (.no rfl (.no rfl (.no rfl (.yes (ir := ir447) rfl Tryd.func48 k447 (.yes (ir := ir448) rfl Tryd.func49 k448 (.yes (ir := ir449) rfl Tryd.func50 k449 (.yes (ir := ir450) rfl Tryd.func51 k450 (.yes (ir := ir451) rfl Tryd.func52 k451 (.yes (ir := ir452) rfl Tryd.func53 k452 (.yes (ir := ir453) rfl Tryd.func54 k453 (.yes (ir := ir454) rfl Tryd.func55 k454 (.yes (ir := ir455) rfl Tryd.func56 k455 (.yes (ir := ir456) rfl Tryd.func57 k456 (.yes (ir := ir457) rfl Tryd.func58 k457 (.yes (ir := ir458) rfl Tryd.func59 k458 (.yes (ir := ir459) rfl Tryd.func60 k459 (.yes (ir := ir460) rfl Tryd.func61 k460 (.yes (ir := ir461) rfl Tryd.func62 k461 (.yes (ir := ir462) rfl Tryd.func63 k462 (.yes (ir := ir463) rfl Tryd.func64 k463 (.yes (ir := ir261) rfl Tryd.func65 k261 (.no rfl (.no rfl (.yes (ir := ir466) rfl Tryd.func68 k466 (.yes (ir := ir467) rfl Tryd.func69 k467 (.yes (ir := ir468) rfl Tryd.func70 k468 (.no rfl (.yes (ir := ir470) rfl Tryd.func72 k470 (.no rfl (.yes (ir := ir472) rfl Tryd.func74 k472 (.yes (ir := ir473) rfl Tryd.func75 k473 (.yes (ir := ir474) rfl Tryd.func76 k474 (.yes (ir := ir475) rfl Tryd.func77 k475 (.yes (ir := ir476) rfl Tryd.func78 k476 (.yes (ir := ir477) rfl Tryd.func79 k477 (.yes (ir := ir478) rfl Tryd.func80 k478 (.no rfl (.no rfl (.yes (ir := ir481) rfl Tryd.func83 k481 (.yes (ir := ir482) rfl Tryd.func84 k482 (.no rfl (.no rfl (.yes (ir := ir485) rfl Tryd.func87 k485 (.yes (ir := ir486) rfl Tryd.func88 k486 (.yes (ir := ir487) rfl Tryd.func89 k487 (.no rfl (.yes (ir := ir489) rfl Tryd.func91 k489 (.yes (ir := ir490) rfl Tryd.func92 k490 (.yes (ir := ir491) rfl Tryd.func93 k491 (.yes (ir := ir492) rfl Tryd.func94 k492 (.yes (ir := ir493) rfl Tryd.func95 k493 (.yes (ir := ir494) rfl Tryd.func96 k494 (.yes (ir := ir495) rfl Tryd.func97 k495 (.yes (ir := ir264) rfl Tryd.func98 k264 (.yes (ir := ir496) rfl Tryd.func99 k496 (.yes (ir := ir497) rfl Tryd.func100 k497 (.yes (ir := ir498) rfl Tryd.func101 k498 (.yes (ir := ir499) rfl Tryd.func102 k499 (.yes (ir := ir500) rfl Tryd.func103 k500 (.yes (ir := ir501) rfl Tryd.func104 k501 (.yes (ir := ir502) rfl Tryd.func105 k502 (.yes (ir := ir178) rfl Tryd.func106 k178 (.no rfl (.yes (ir := ir503) rfl Tryd.func108 k503 (.yes (ir := ir504) rfl Tryd.func109 k504 (.yes (ir := ir505) rfl Tryd.func110 k505 (.yes (ir := ir506) rfl Tryd.func111 k506 (.yes (ir := ir507) rfl Tryd.func112 k507 (.yes (ir := ir508) rfl Tryd.func113 k508 (.yes (ir := ir509) rfl Tryd.func114 k509 (.no rfl (.no rfl (.yes (ir := ir192) rfl Tryd.func117 k192 (.yes (ir := ir256) rfl Tryd.func118 k256 (.yes (ir := ir512) rfl Tryd.func119 k512 (.no rfl (.no rfl (.no rfl (.no rfl (.no rfl (.no rfl (.no rfl (.no rfl (.no rfl (.no rfl (.no rfl (.no rfl (.no rfl (.no rfl (.no rfl (.no rfl (.no rfl (.no rfl (.no rfl (.no rfl (.no rfl (.no rfl (.no rfl (.no rfl (.no rfl (.no rfl (.no rfl (.no rfl (.no rfl (.no rfl (.no rfl (.no rfl (.no rfl (.no rfl trivial))))))))))))))))))))))))))))))))))))))))))))))))))))))))))))))))))))))))))))))))))))))))))))))))))))))))))))))))))))))))))))))))))))))))))))))))))))))))))
theorem primsOk {B : Prot} {w0 : World} : ∀ f q, prims (gOf gl f) = some q → ∀ args H v H', q args H = some (v, H') → ∀ S, Sub B S → ∀ E w us, HRel (gOf gl) S w0 E H w → VRs (gOf gl) H.next E args us → Back Tryd.prog (gOf gl) S w0 E H w (callFunc f us.toArray) v H' := by
  intro f q h
  unfold prims at h
  split at h
  · rename_i e
    simp only [Option.some.injEq] at h
    subst h
    have := gOf_at (gl := gl) (i := 107) (by decide) (by decide +kernel) e
    subst this
    exact fun args H v H' hq S _ => noEsc_back Tryd.func107 (by kernel_rfl) (by kernel_rfl) (by kernel_rfl) (by kernel_rfl) args H v H' hq S w0
  cases h
theorem primsUp : PrimsUp prims := by
  intro g q h
  unfold prims at h
  split at h
  · simp only [Option.some.injEq] at h; subst h; exact fun args H v H' h => noEsc_next h
  cases h
theorem link {B : Prot} {w0 : World} : Link Tryd.prog (gOf gl) B w0 (Go.Am.look irs) prims := link_of (by kernel_rfl) (by decide) (by decide) primsUp linked (by exact primsOk)
theorem d411 (ω : Ora) : D411 (tab ω) := ⟨rfl, rfl⟩
theorem d501 (ω : Ora) : D501 (tab ω) := ⟨rfl, rfl⟩
theorem d490 (ω : Ora) : D490 (tab ω) := ⟨rfl, rfl, d501 ω⟩
theorem d491 (ω : Ora) : D491 (tab ω) := ⟨rfl, rfl⟩
theorem d256 (ω : Ora) : D256 (tab ω) := ⟨rfl, rfl⟩
theorem d504 (ω : Ora) : D504 (tab ω) := ⟨rfl, rfl, d256 ω⟩
theorem d498 (ω : Ora) : D498 (tab ω) := ⟨rfl, rfl, d504 ω⟩
theorem d506 (ω : Ora) : D506 (tab ω) := ⟨rfl, rfl⟩
theorem d505 (ω : Ora) : D505 (tab ω) := ⟨rfl, rfl⟩
theorem d507 (ω : Ora) : D507 (tab ω) := ⟨rfl, rfl⟩
theorem d512 (ω : Ora) : D512 (tab ω) := ⟨rfl, rfl⟩
theorem d509 (ω : Ora) : D509 (tab ω) := ⟨rfl, rfl, d512 ω⟩
theorem d508 (ω : Ora) : D508 (tab ω) := ⟨rfl, rfl, d512 ω⟩
theorem d499 (ω : Ora) : D499 (tab ω) := ⟨rfl, rfl, d506 ω, d505 ω, d507 ω, d509 ω, d508 ω⟩
theorem d482 (ω : Ora) : D482 (tab ω) := ⟨rfl, rfl, d498 ω, d499 ω⟩
theorem d456 (ω : Ora) : D456 (tab ω) := ⟨rfl, rfl, d490 ω, d491 ω, d482 ω⟩
theorem d457 (ω : Ora) : D457 (tab ω) := ⟨rfl, rfl⟩
theorem d458 (ω : Ora) : D458 (tab ω) := ⟨rfl, rfl⟩
theorem d192 (ω : Ora) : D192 (tab ω) := ⟨rfl, rfl⟩
theorem d178 (ω : Ora) : D178 (tab ω) := ⟨rfl, rfl, d192 ω⟩
theorem d494 (ω : Ora) : D494 (tab ω) := ⟨rfl, rfl, d178 ω⟩
theorem d461 (ω : Ora) : D461 (tab ω) := ⟨rfl, rfl, d494 ω⟩
theorem d502 (ω : Ora) : D502 (tab ω) := ⟨rfl, rfl⟩
theorem d492 (ω : Ora) : D492 (tab ω) := ⟨rfl, rfl, d502 ω⟩
theorem d493 (ω : Ora) : D493 (tab ω) := ⟨rfl, rfl⟩
theorem d477 (ω : Ora) : D477 (tab ω) := ⟨rfl, rfl, d492 ω, d493 ω, d458 ω⟩
theorem d459 (ω : Ora) : D459 (tab ω) := ⟨rfl, rfl, d457 ω, d458 ω, d461 ω, d477 ω⟩
theorem d473 (ω : Ora) : D473 (tab ω) := ⟨rfl, rfl⟩
theorem d495 (ω : Ora) : D495 (tab ω) := ⟨rfl, rfl⟩
theorem d462 (ω : Ora) : D462 (tab ω) := ⟨rfl, rfl, d495 ω⟩
theorem d487 (ω : Ora) : D487 (tab ω) := ⟨rfl, rfl, d462 ω, d473 ω⟩
theorem d460 (ω : Ora) : D460 (tab ω) := ⟨rfl, rfl, d492 ω, d493 ω, d458 ω⟩
theorem d470 (ω : Ora) : D470 (tab ω) := ⟨rfl, rfl, d460 ω, d473 ω, d461 ω, d477 ω⟩
theorem d466 (ω : Ora) : D466 (tab ω) := ⟨rfl, rfl, d459 ω, d473 ω, d487 ω, d470 ω⟩
theorem d264 (ω : Ora) : D264 (tab ω) := ⟨rfl, rfl, rfl⟩
theorem d463 (ω : Ora) : D463 (tab ω) := ⟨rfl, rfl, d264 ω⟩
theorem d261 (ω : Ora) : D261 (tab ω) := ⟨rfl, rfl⟩
theorem d474 (ω : Ora) : D474 (tab ω) := ⟨rfl, rfl, d463 ω, d261 ω⟩
theorem d467 (ω : Ora) : D467 (tab ω) := ⟨rfl, rfl, d474 ω⟩
theorem d416 (ω : Ora) : D416 (tab ω) := ⟨rfl, rfl, d456 ω, d466 ω, d467 ω⟩
theorem d503 (ω : Ora) : D503 (tab ω) := ⟨rfl, rfl⟩
theorem d497 (ω : Ora) : D497 (tab ω) := ⟨rfl, rfl, d503 ω⟩
theorem d478 (ω : Ora) : D478 (tab ω) := ⟨rfl, rfl, d497 ω, d458 ω⟩
theorem d468 (ω : Ora) : D468 (tab ω) := ⟨rfl, rfl, d478 ω, d473 ω⟩
theorem d481 (ω : Ora) : D481 (tab ω) := ⟨rfl, rfl, d473 ω⟩
theorem d500 (ω : Ora) : D500 (tab ω) := ⟨rfl, rfl, d468 ω, d481 ω, d470 ω⟩
theorem d486 (ω : Ora) : D486 (tab ω) := ⟨rfl, rfl, d487 ω, d466 ω, d500 ω, d481 ω⟩
theorem d436 (ω : Ora) : D436 (tab ω) := ⟨rfl, rfl, d456 ω, d486 ω, d467 ω⟩
theorem d414 (ω : Ora) : D414 (tab ω) := ⟨rfl, rfl, d456 ω, d457 ω, d458 ω, d459 ω, d460 ω, d461 ω, d462 ω, d463 ω, d261 ω⟩
theorem d472 (ω : Ora) : D472 (tab ω) := ⟨rfl, rfl, d462 ω, d478 ω⟩
theorem d420 (ω : Ora) : D420 (tab ω) := ⟨rfl, rfl, d456 ω, d472 ω, d473 ω, d474 ω⟩
theorem d412 (ω : Ora) : D412 (tab ω) := ⟨rfl, rfl, d416 ω, d436 ω, d414 ω, d420 ω⟩
theorem d421 (ω : Ora) : D421 (tab ω) := ⟨rfl, rfl⟩
theorem d447 (ω : Ora) : D447 (tab ω) := ⟨rfl, rfl, d421 ω⟩
theorem d453 (ω : Ora) : D453 (tab ω) := ⟨rfl, rfl⟩
theorem d448 (ω : Ora) : D448 (tab ω) := ⟨rfl, rfl, d453 ω⟩
theorem d449 (ω : Ora) : D449 (tab ω) := ⟨rfl, rfl⟩
theorem d454 (ω : Ora) : D454 (tab ω) := ⟨rfl, rfl⟩
theorem d452 (ω : Ora) : D452 (tab ω) := ⟨rfl, rfl, d453 ω⟩
theorem d496 (ω : Ora) : D496 (tab ω) := ⟨rfl, rfl⟩
theorem d475 (ω : Ora) : D475 (tab ω) := ⟨rfl, rfl, d496 ω⟩
theorem d489 (ω : Ora) : D489 (tab ω) := ⟨rfl, rfl⟩
theorem d451 (ω : Ora) : D451 (tab ω) := ⟨rfl, rfl, d475 ω, d489 ω, d453 ω⟩
theorem d485 (ω : Ora) : D485 (tab ω) := ⟨rfl, rfl⟩
theorem d476 (ω : Ora) : D476 (tab ω) := ⟨rfl, rfl, d485 ω, d451 ω⟩
theorem d450 (ω : Ora) : D450 (tab ω) := ⟨rfl, rfl, d453 ω, d475 ω, d476 ω⟩
theorem d455 (ω : Ora) : D455 (tab ω) := ⟨rfl, rfl⟩
theorem d413 (ω : Ora) : D413 (tab ω) := ⟨rfl, rfl, d447 ω, d448 ω, d449 ω, d453 ω, d454 ω, d452 ω, d451 ω, d450 ω, d455 ω⟩
theorem d402 (ω : Ora) : D402 (tab ω) := ⟨rfl, rfl, d411 ω, d412 ω, d413 ω, d414 ω⟩
theorem own : ownKnob Tryd.prog.godebug = none := by kernel_rfl
theorem contract (H : Type) (enc : TypeId × Value → H) (W : World) (base : Nat) (args : Array Value) (ds gs : List (DataW H)) (before : List MemPlace)
    (hval : ∀ (j : Nat) t v, Tryd.f3.params[j]? = some t → args[j]? = some v → Value.okWide Tryd.prog W .any base t v)
    (hW : DataW.Whole enc Tryd.prog Tryd.f3.params.toList Rows.bigFractionsSpec.vars false W args.toList ds gs before) (hL : laidMetH Tryd.prog Rows.bigFractionsRow.laid W) :
    Calls Tryd.prog 3 args W fun e W' => ∃ v, e = .returned v ∧ Rows.bigFractionsSpec.post enc Tryd.prog Tryd.f3 false true false false W args v W' :=
  row_contract (G := gOf gl) (n := 12) (ss := [.str, .str, .int .i64]) (tb := 4) link (f := 3) (ir := ir402) rfl (by kernel_rfl) (by kernel_rfl) (by kernel_rfl) rfl (by kernel_rfl) Tryd.underlying4 hval hW
    (fun hl => by
      have hp : Tryd.f3.params.toList.length = 3 := by kernel_rfl
      rw [hp] at hl
      refine match ds, hl with
      | [d1, d2, d3], _ => ?_
      rfl) (fun ω K vs hw hg => law402 (d402 ω) hw hg)
noncomputable def laidWorld (os : Os) : World :=
  { World.holding Tryd.prog os ⟨#[], #[], []⟩ with heap := (Array.modify (Array.modify (World.holding Tryd.prog os ⟨#[], #[], []⟩).heap 1 (fun (o : Obj) => match o with | .cells _ t frozen => .cells #[.int .u8 128, .int .u8 191, .int .u8 160, .int .u8 191, .int .u8 128, .int .u8 159, .int .u8 144, .int .u8 191, .int .u8 128, .int .u8 143, .int .u8 0, .int .u8 0, .int .u8 0, .int .u8 0, .int .u8 0, .int .u8 0, .int .u8 0, .int .u8 0, .int .u8 0, .int .u8 0, .int .u8 0, .int .u8 0, .int .u8 0, .int .u8 0, .int .u8 0, .int .u8 0, .int .u8 0, .int .u8 0, .int .u8 0, .int .u8 0, .int .u8 0, .int .u8 0] t frozen | o => o)) 0 (fun (o : Obj) => match o with | .cells _ t frozen => .cells (Go.Pinned.utf8FirstZ.map fun (n : Nat) => Value.int .u8 (Int.ofNat n)).toArray t frozen | o => o)) }
theorem laid_met (os : Os) : laidMet Tryd.prog Rows.bigFractionsRow.laid ((laidWorld os).forCall (fun _ _ => 0) ⟨#[], #[.string ⟨#[]⟩, .string ⟨#[]⟩, .int .i64 0], []⟩).memory :=
  laidMet_of_run' 8 (by kernel_rfl) (by kernel_rfl)
theorem reads (os : Os) {H : Type} (enc : TypeId × Value → H) : ∃ places, DataW.whole enc Tryd.prog ((laidWorld os).forCall (fun _ _ => 0) ⟨#[], #[.string ⟨#[]⟩, .string ⟨#[]⟩, .int .i64 0], []⟩).memory Tryd.f3.params.toList Rows.bigFractionsSpec.vars false #[.string ⟨#[]⟩, .string ⟨#[]⟩, .int .i64 0].toList 8 = some ([.lit (.string []), .lit (.string []), .lit (.int .i64 0)], [], places) :=
  ⟨[], by kernel_rfl⟩
theorem lifted (os : Os) (started : os.Started) (H : Type) (enc : TypeId × Value → H) (F : Stop.Interp) :
    ReturnsInHanded {} Tryd.checked os 3 .any ((OpenSpec.ofChange Rows.bigFractionsSpec).preRow enc Tryd.prog Tryd.f3 Rows.bigFractionsRow.domain false Rows.bigFractionsRow.laid) (((OpenSpec.ofChange Rows.bigFractionsSpec).at F).post enc Tryd.prog Tryd.f3 false true false false) := by
  obtain ⟨places, hx⟩ := reads os enc
  refine returnsInHanded_of_row (C := Tryd.checked) (s := OpenSpec.ofChange Rows.bigFractionsSpec) own started (by kernel_rfl) Tryd.func3
    (witness_row_at (enc := enc) (C := Tryd.checked) false (laidWorld os) #[.string ⟨#[]⟩, .string ⟨#[]⟩, .int .i64 0] rfl (by kernel_rfl) (by kernel_rfl) (by kernel_rfl)
      (OpenSpec.preRow_of_cond 8 hx (by kernel_rfl) (fun k hk => by cases hk) (by kernel_rfl) (laid_met os))) ?_
  intro W base args ds gs before hval hW _ _ _ hL _ _
  exact contract H enc W base args ds gs before hval hW hL
theorem over : Rows.bigFractionsRow.holds Tryd.pinned (OpenSpec.ofChange Rows.bigFractionsSpec) :=
  OpenClaim.holds_of_cond 3 Tryd.f3 rfl rfl rfl rfl rfl rfl rfl ⟨rfl, rfl, rfl, rfl, rfl⟩ rfl rfl rfl rfl rfl (by kernel_rfl) Tryd.func3 (by kernel_rfl)
    (of_decide_eq_true (by kernel_rfl)) (by unfold Func.isWrapper; first | (rw [if_pos (by decide +kernel)]; kernel_rfl) | (rw [if_neg (by decide +kernel)]; exact ⟨rfl, rfl⟩))
    (fun os started H enc _ F => by rw [OpenClaim.pre_eq_preRow]; exact lifted os started H enc F)
theorem plain (f : FuncId) (fn : Func) (hf : Tryd.pinned.checked.prog.funcNamed "motley/motleylaw26.BigFractions" = some f) (hfn : Tryd.pinned.checked.prog.funcs[f]? = some fn) :
    false = Tryd.pinned.checked.prog.looks [] ∧ ∀ (j : Nat) t, fn.params[j]? = some t → Tryd.pinned.checked.prog.wantsStandIn t = false := by
  obtain rfl : f = 3 := Option.some.inj ((show Tryd.prog.funcNamed "motley/motleylaw26.BigFractions" = some 3 by kernel_rfl).symm.trans hf) |>.symm
  obtain rfl : fn = Tryd.f3 := (Option.some.inj (Tryd.func3.symm.trans hfn)).symm
  refine ⟨by kernel_rfl, fun j t ht => ?_⟩
  have h : (Tryd.f3.params.toList.all fun t => !Tryd.prog.wantsStandIn t) = true := by kernel_rfl
  have := List.all_eq_true.1 h t (by simpa using Array.mem_of_getElem? ht)
  show Tryd.prog.wantsStandIn t = false
  simpa using this
end BigFractions_
/-- THE TIED CARD. -/
theorem bigFractions_proved : Rows.BigFractionsCardSaid :=
  Claim7.holds_tied_plain_at .later [] _ _ _ _ BigFractions_.over (fun _ h => by cases h) (by kernel_rfl) (fun _ h => by cases h) bigFractions_row_tie rfl ⟨rfl, rfl⟩ (by kernel_rfl) rfl BigFractions_.plain (by kernel_rfl)
#print axioms bigFractions_proved
end Go.Proofs.YtdgkaachkodimaaDoor
