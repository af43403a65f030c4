/- The row of ListPairs: the functions that it reaches are those of the small machine, and what the small machine gives goes into the statement. Printed by mkrow.py. -/
import Derived.Test.YtjmiblcdjkcgoaaRows
import Derived.Test.YtjmiblcdjkcgoaaAmProd3
import Derived.Test.YtjmiblcdjkcgoaaAmPrim
set_option linter.unusedVariables false
set_option maxRecDepth 100000
namespace Go.Proofs.Ytjmiblcdjkcgoaa
namespace ListPairs_
open Go.Am Go.RowKit Go.ChangeShapes

def gl : List Nat := [100,101,102,103,104,105,106,107,108,109,110,111,112,113,114,115,116,117,118,119,120,121,122,123,124,125,126,127,128,129,130,131,132,133,134,135,136,137,138,139,140,141,142,143,144,145,146,147,148,149,150,151,152,153,154,155,156,157,158,159,160,161,162,163,164,165,166,167,168,169,170,171,172,173,174,175,176,177,178,179,180,181,182,183,184,185,186,187,188,189,190,191,192,193,194,195,196,197,198,199,200,201,202,203,204,205,206,207,208,209,210,211,212,213,214,215,216,217,218,219,220,221,222,223,224,225,226,227,228,229,230,231]
def irs : List (Nat × AFunc) := [(136, ir136), (148, ir148), (150, ir150), (173, ir173), (149, ir149), (113, ir113), (135, ir135), (112, ir112), (137, ir137), (138, ir138), (163, ir163), (139, ir139), (140, ir140), (164, ir164), (141, ir141), (153, ir153), (142, ir142), (122, ir122), (109, ir109)]
def prims : Nat → Option (List AV → AHeap → Option (AV × AHeap)) := fun _ => none
def tab : Tab := tabOf irs prims
theorem k136 : compileFn Try.prog (gOf gl) Try.f36 = some ir136 := by kernel_rfl
theorem k148 : compileFn Try.prog (gOf gl) Try.f48 = some ir148 := by kernel_rfl
theorem k150 : compileFn Try.prog (gOf gl) Try.f50 = some ir150 := by kernel_rfl
theorem k173 : compileFn Try.prog (gOf gl) Try.f73 = some ir173 := by kernel_rfl
theorem k149 : compileFn Try.prog (gOf gl) Try.f49 = some ir149 := by kernel_rfl
theorem k113 : compileFn Try.prog (gOf gl) Try.f13 = some ir113 := by kernel_rfl
theorem k135 : compileFn Try.prog (gOf gl) Try.f35 = some ir135 := by kernel_rfl
theorem k112 : compileFn Try.prog (gOf gl) Try.f12 = some ir112 := by kernel_rfl
theorem k137 : compileFn Try.prog (gOf gl) Try.f37 = some ir137 := by kernel_rfl
theorem k138 : compileFn Try.prog (gOf gl) Try.f38 = some ir138 := by kernel_rfl
theorem k163 : compileFn Try.prog (gOf gl) Try.f63 = some ir163 := by kernel_rfl
theorem k139 : compileFn Try.prog (gOf gl) Try.f39 = some ir139 := by kernel_rfl
theorem k140 : compileFn Try.prog (gOf gl) Try.f40 = some ir140 := by kernel_rfl
theorem k164 : compileFn Try.prog (gOf gl) Try.f64 = some ir164 := by kernel_rfl
theorem k141 : compileFn Try.prog (gOf gl) Try.f41 = some ir141 := by kernel_rfl
theorem k153 : compileFn Try.prog (gOf gl) Try.f53 = some ir153 := by kernel_rfl
theorem k142 : compileFn Try.prog (gOf gl) Try.f42 = some ir142 := by kernel_rfl
theorem k122 : compileFn Try.prog (gOf gl) Try.f22 = some ir122 := by kernel_rfl
theorem k109 : compileFn Try.prog (gOf gl) Try.f9 = some ir109 := by kernel_rfl
theorem linked : Linked Try.prog (gOf gl) irs 0 gl := (.no rfl (.no rfl (.no rfl (.no rfl (.no rfl (.no rfl (.no rfl (.no rfl (.no rfl (.yes (ir := ir109) rfl Try.func9 k109 (.no rfl (.no rfl (.yes (ir := ir112) rfl Try.func12 k112 (.yes (ir := ir113) rfl Try.func13 k113 (.no rfl (.no rfl (.no rfl (.no rfl (.no rfl (.no rfl (.no rfl (.no rfl (.yes (ir := ir122) rfl Try.func22 k122 (.no rfl (.no rfl (.no rfl (.no rfl (.no rfl (.no rfl (.no rfl (.no rfl (.no rfl (.no rfl (.no rfl (.no rfl (.yes (ir := ir135) rfl Try.func35 k135 (.yes (ir := ir136) rfl Try.func36 k136 (.yes (ir := ir137) rfl Try.func37 k137 (.yes (ir := ir138) rfl Try.func38 k138 (.yes (ir := ir139) rfl Try.func39 k139 (.yes (ir := ir140) rfl Try.func40 k140 (.yes (ir := ir141) rfl Try.func41 k141 (.yes (ir := ir142) rfl Try.func42 k142 (.no rfl (.no rfl (.no rfl (.no rfl (.no rfl (.yes (ir := ir148) rfl Try.func48 k148 (.yes (ir := ir149) rfl Try.func49 k149 (.yes (ir := ir150) rfl Try.func50 k150 (.no rfl (.no rfl (.yes (ir := ir153) rfl Try.func53 k153 (.no rfl (.no rfl (.no rfl (.no rfl (.no rfl (.no rfl (.no rfl (.no rfl (.no rfl (.yes (ir := ir163) rfl Try.func63 k163 (.yes (ir := ir164) rfl Try.func64 k164 (.no rfl (.no rfl (.no rfl (.no rfl (.no rfl (.no rfl (.no rfl (.no rfl (.yes (ir := ir173) rfl Try.func73 k173 (.no rfl (.no rfl (.no rfl (.no rfl (.no rfl (.no rfl (.no rfl (.no rfl (.no rfl (.no rfl (.no rfl (.no rfl (.no rfl (.no rfl (.no rfl (.no rfl (.no rfl (.no rfl (.no rfl (.no rfl (.no rfl (.no rfl (.no rfl (.no rfl (.no rfl (.no rfl (.no rfl (.no rfl (.no rfl (.no rfl (.no rfl (.no rfl (.no rfl (.no rfl (.no rfl (.no rfl (.no rfl (.no rfl (.no rfl (.no rfl (.no rfl (.no rfl (.no rfl (.no rfl (.no rfl (.no rfl (.no rfl (.no rfl (.no rfl (.no rfl (.no rfl (.no rfl (.no rfl (.no rfl (.no rfl (.no rfl (.no rfl (.no rfl trivial))))))))))))))))))))))))))))))))))))))))))))))))))))))))))))))))))))))))))))))))))))))))))))))))))))))))))))))))))))))))))))))))))))
theorem link {B : Prot} {w0 : World} : Link Try.prog (gOf gl) B w0 tab.fn tab.prim := link_of (by kernel_rfl) (by decide) linked (fun f q h => by cases h)
theorem d136 : D136 tab := ⟨rfl, rfl⟩
theorem d148 : D148 tab := ⟨rfl, rfl⟩
theorem d150 : D150 tab := ⟨rfl, rfl⟩
theorem d173 : D173 tab := ⟨rfl, rfl⟩
theorem d149 : D149 tab := ⟨rfl, rfl, d173⟩
theorem d113 : D113 tab := ⟨rfl, rfl, d148, d150, d149⟩
theorem d135 : D135 tab := ⟨rfl, rfl⟩
theorem d112 : D112 tab := ⟨rfl, rfl, d113, d135⟩
theorem d137 : D137 tab := ⟨rfl, rfl⟩
theorem d138 : D138 tab := ⟨rfl, rfl, d148⟩
theorem d163 : D163 tab := ⟨rfl, rfl⟩
theorem d139 : D139 tab := ⟨rfl, rfl, d163⟩
theorem d140 : D140 tab := ⟨rfl, rfl, d163⟩
theorem d164 : D164 tab := ⟨rfl, rfl⟩
theorem d141 : D141 tab := ⟨rfl, rfl, d164⟩
theorem d153 : D153 tab := ⟨rfl, rfl⟩
theorem d142 : D142 tab := ⟨rfl, rfl, d164, d153⟩
theorem d122 : D122 tab := ⟨rfl, rfl⟩
theorem d109 : D109 tab := ⟨rfl, rfl, d136, d112, d137, d138, d139, d140, d141, d142, d122⟩
theorem own : ownKnob Try.prog.godebug = none := by kernel_rfl
theorem lifted (os : Os) (started : os.Started) (H : Type) (enc : TypeId × Value → H) :
    ReturnsInHanded {} Try.checked os 9 .any (Rows.listPairsSpec.pre6 enc Try.prog Try.f9 Rows.listPairsRow.domain false) (Rows.listPairsSpec.post enc Try.prog Try.f9 false true false false) := by
  refine returnsInHanded_of_change (C := Try.checked) own started (by kernel_rfl) Try.func9
    (ChangeSpec.witness6 (enc := enc) (C := Try.checked) false ⟨#[], #[.slice none 0 0], []⟩ 8 (by kernel_rfl) (by kernel_rfl) (by kernel_rfl) (by kernel_rfl)) ?_
  intro W base args ds gs before hval hW hcnd _
  exact row_contract (G := gOf gl) (n := 12) (ss := [.slice (.slice .str)]) (tb := 4) link (f := 9) (ir := ir109) rfl rfl (by kernel_rfl) (by kernel_rfl) (by kernel_rfl) rfl (by kernel_rfl) Try.underlying4 hval hW
    (fun hl => by
      have hp : Try.f9.params.toList.length = 1 := by kernel_rfl
      rw [hp] at hl
      refine match ds, hl with
      | [d1], _ => ?_
      rfl) (fun K vs hw hg => law109 d109 hw hg)
theorem over : Rows.listPairsRow.holds Try.pinned (OpenSpec.ofChange Rows.listPairsSpec) :=
  OpenClaim.holds_of_wide 9 Try.f9 rfl rfl rfl rfl rfl rfl rfl ⟨rfl, rfl, rfl, rfl, rfl⟩ rfl rfl rfl rfl rfl (by kernel_rfl) Try.func9 (by kernel_rfl)
    (of_decide_eq_true (by kernel_rfl)) (by unfold Func.isWrapper; first | (rw [if_pos (by decide +kernel)]; kernel_rfl) | (rw [if_neg (by decide +kernel)]; exact ⟨rfl, rfl⟩))
    (fun os started H enc _ => lifted os started H enc)
end ListPairs_
/-- THE STATEMENT. -/
theorem listPairs_proved : Rows.ListPairsSaid := ListPairs_.over
#print axioms listPairs_proved
end Go.Proofs.Ytjmiblcdjkcgoaa
