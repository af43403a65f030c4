/- The row of ListReduces: the functions that it reaches are those of the small machine, and what the small machine gives goes into the statement. Printed by mkrow.py. -/
import Derived.Test.YtjmiblcdjkcgoaaRows
import Derived.Test.YtjmiblcdjkcgoaaAmReduce
import Derived.Test.YtjmiblcdjkcgoaaAmPrim
set_option linter.unusedVariables false
set_option maxRecDepth 100000
namespace Go.Proofs.Ytjmiblcdjkcgoaa
namespace ListReduces_
open Go.Am Go.RowKit Go.ChangeShapes

def gl : List Nat := [100,101,102,103,104,105,106,107,108,109,110,111,112,113,114,115,116,117,118,119,120,121,122,123,124,125,126,127,128,129,130,131,132,133,134,135,136,137,138,139,140,141,142,143,144,145,146,147,148,149,150,151,152,153,154,155,156,157,158,159,160,161,162,163,164,165,166,167,168,169,170,171,172,173,174,175,176,177,178,179,180,181,182,183,184,185,186,187,188,189,190,191,192,193,194,195,196,197,198,199,200,201,202,203,204,205,206,207,208,209,210,211,212,213,214,215,216,217,218,219,220,221,222,223,224,225,226,227,228,229,230,231]
def irs : List (Nat × AFunc) := [(148, ir148), (150, ir150), (173, ir173), (149, ir149), (113, ir113), (135, ir135), (112, ir112), (165, ir165), (194, ir194), (180, ir180), (181, ir181), (182, ir182), (183, ir183), (166, ir166), (143, ir143), (185, ir185), (196, ir196), (195, ir195), (197, ir197), (198, ir198), (210, ir210), (199, ir199), (201, ir201), (200, ir200), (202, ir202), (203, ir203), (211, ir211), (204, ir204), (205, ir205), (206, ir206), (207, ir207), (184, ir184), (167, ir167), (144, ir144), (110, ir110)]
def prims : Nat → Option (List AV → AHeap → Option (AV × AHeap)) := fun _ => none
def tab : Tab := tabOf irs prims
theorem k148 : compileFn Try.prog (gOf gl) Try.f48 = some ir148 := by kernel_rfl
theorem k150 : compileFn Try.prog (gOf gl) Try.f50 = some ir150 := by kernel_rfl
theorem k173 : compileFn Try.prog (gOf gl) Try.f73 = some ir173 := by kernel_rfl
theorem k149 : compileFn Try.prog (gOf gl) Try.f49 = some ir149 := by kernel_rfl
theorem k113 : compileFn Try.prog (gOf gl) Try.f13 = some ir113 := by kernel_rfl
theorem k135 : compileFn Try.prog (gOf gl) Try.f35 = some ir135 := by kernel_rfl
theorem k112 : compileFn Try.prog (gOf gl) Try.f12 = some ir112 := by kernel_rfl
theorem k165 : compileFn Try.prog (gOf gl) Try.f65 = some ir165 := by kernel_rfl
theorem k194 : compileFn Try.prog (gOf gl) Try.f94 = some ir194 := by kernel_rfl
theorem k180 : compileFn Try.prog (gOf gl) Try.f80 = some ir180 := by kernel_rfl
theorem k181 : compileFn Try.prog (gOf gl) Try.f81 = some ir181 := by kernel_rfl
theorem k182 : compileFn Try.prog (gOf gl) Try.f82 = some ir182 := by kernel_rfl
theorem k183 : compileFn Try.prog (gOf gl) Try.f83 = some ir183 := by kernel_rfl
theorem k166 : compileFn Try.prog (gOf gl) Try.f66 = some ir166 := by kernel_rfl
theorem k143 : compileFn Try.prog (gOf gl) Try.f43 = some ir143 := by kernel_rfl
theorem k185 : compileFn Try.prog (gOf gl) Try.f85 = some ir185 := by kernel_rfl
theorem k196 : compileFn Try.prog (gOf gl) Try.f96 = some ir196 := by kernel_rfl
theorem k195 : compileFn Try.prog (gOf gl) Try.f95 = some ir195 := by kernel_rfl
theorem k197 : compileFn Try.prog (gOf gl) Try.f97 = some ir197 := by kernel_rfl
theorem k198 : compileFn Try.prog (gOf gl) Try.f98 = some ir198 := by kernel_rfl
theorem k210 : compileFn Try.prog (gOf gl) Try.f110 = some ir210 := by kernel_rfl
theorem k199 : compileFn Try.prog (gOf gl) Try.f99 = some ir199 := by kernel_rfl
theorem k201 : compileFn Try.prog (gOf gl) Try.f101 = some ir201 := by kernel_rfl
theorem k200 : compileFn Try.prog (gOf gl) Try.f100 = some ir200 := by kernel_rfl
theorem k202 : compileFn Try.prog (gOf gl) Try.f102 = some ir202 := by kernel_rfl
theorem k203 : compileFn Try.prog (gOf gl) Try.f103 = some ir203 := by kernel_rfl
theorem k211 : compileFn Try.prog (gOf gl) Try.f111 = some ir211 := by kernel_rfl
theorem k204 : compileFn Try.prog (gOf gl) Try.f104 = some ir204 := by kernel_rfl
theorem k205 : compileFn Try.prog (gOf gl) Try.f105 = some ir205 := by kernel_rfl
theorem k206 : compileFn Try.prog (gOf gl) Try.f106 = some ir206 := by kernel_rfl
theorem k207 : compileFn Try.prog (gOf gl) Try.f107 = some ir207 := by kernel_rfl
theorem k184 : compileFn Try.prog (gOf gl) Try.f84 = some ir184 := by kernel_rfl
theorem k167 : compileFn Try.prog (gOf gl) Try.f67 = some ir167 := by kernel_rfl
theorem k144 : compileFn Try.prog (gOf gl) Try.f44 = some ir144 := by kernel_rfl
theorem k110 : compileFn Try.prog (gOf gl) Try.f10 = some ir110 := by kernel_rfl
theorem linked : Linked Try.prog (gOf gl) irs 0 gl := (.no rfl (.no rfl (.no rfl (.no rfl (.no rfl (.no rfl (.no rfl (.no rfl (.no rfl (.no rfl (.yes (ir := ir110) rfl Try.func10 k110 (.no rfl (.yes (ir := ir112) rfl Try.func12 k112 (.yes (ir := ir113) rfl Try.func13 k113 (.no rfl (.no rfl (.no rfl (.no rfl (.no rfl (.no rfl (.no rfl (.no rfl (.no rfl (.no rfl (.no rfl (.no rfl (.no rfl (.no rfl (.no rfl (.no rfl (.no rfl (.no rfl (.no rfl (.no rfl (.no rfl (.yes (ir := ir135) rfl Try.func35 k135 (.no rfl (.no rfl (.no rfl (.no rfl (.no rfl (.no rfl (.no rfl (.yes (ir := ir143) rfl Try.func43 k143 (.yes (ir := ir144) rfl Try.func44 k144 (.no rfl (.no rfl (.no rfl (.yes (ir := ir148) rfl Try.func48 k148 (.yes (ir := ir149) rfl Try.func49 k149 (.yes (ir := ir150) rfl Try.func50 k150 (.no rfl (.no rfl (.no rfl (.no rfl (.no rfl (.no rfl (.no rfl (.no rfl (.no rfl (.no rfl (.no rfl (.no rfl (.no rfl (.no rfl (.yes (ir := ir165) rfl Try.func65 k165 (.yes (ir := ir166) rfl Try.func66 k166 (.yes (ir := ir167) rfl Try.func67 k167 (.no rfl (.no rfl (.no rfl (.no rfl (.no rfl (.yes (ir := ir173) rfl Try.func73 k173 (.no rfl (.no rfl (.no rfl (.no rfl (.no rfl (.no rfl (.yes (ir := ir180) rfl Try.func80 k180 (.yes (ir := ir181) rfl Try.func81 k181 (.yes (ir := ir182) rfl Try.func82 k182 (.yes (ir := ir183) rfl Try.func83 k183 (.yes (ir := ir184) rfl Try.func84 k184 (.yes (ir := ir185) rfl Try.func85 k185 (.no rfl (.no rfl (.no rfl (.no rfl (.no rfl (.no rfl (.no rfl (.no rfl (.yes (ir := ir194) rfl Try.func94 k194 (.yes (ir := ir195) rfl Try.func95 k195 (.yes (ir := ir196) rfl Try.func96 k196 (.yes (ir := ir197) rfl Try.func97 k197 (.yes (ir := ir198) rfl Try.func98 k198 (.yes (ir := ir199) rfl Try.func99 k199 (.yes (ir := ir200) rfl Try.func100 k200 (.yes (ir := ir201) rfl Try.func101 k201 (.yes (ir := ir202) rfl Try.func102 k202 (.yes (ir := ir203) rfl Try.func103 k203 (.yes (ir := ir204) rfl Try.func104 k204 (.yes (ir := ir205) rfl Try.func105 k205 (.yes (ir := ir206) rfl Try.func106 k206 (.yes (ir := ir207) rfl Try.func107 k207 (.no rfl (.no rfl (.yes (ir := ir210) rfl Try.func110 k210 (.yes (ir := ir211) rfl Try.func111 k211 (.no rfl (.no rfl (.no rfl (.no rfl (.no rfl (.no rfl (.no rfl (.no rfl (.no rfl (.no rfl (.no rfl (.no rfl (.no rfl (.no rfl (.no rfl (.no rfl (.no rfl (.no rfl (.no rfl (.no rfl trivial))))))))))))))))))))))))))))))))))))))))))))))))))))))))))))))))))))))))))))))))))))))))))))))))))))))))))))))))))))))))))))))))))))
theorem link : Link Try.prog (gOf gl) tab.fn tab.prim := link_of (by kernel_rfl) (by decide) linked (fun f q h => by cases h)
theorem d148 : D148 tab := ⟨rfl, rfl⟩
theorem d150 : D150 tab := ⟨rfl, rfl⟩
theorem d173 : D173 tab := ⟨rfl, rfl⟩
theorem d149 : D149 tab := ⟨rfl, rfl, d173⟩
theorem d113 : D113 tab := ⟨rfl, rfl, d148, d150, d149⟩
theorem d135 : D135 tab := ⟨rfl, rfl⟩
theorem d112 : D112 tab := ⟨rfl, rfl, d113, d135⟩
theorem d165 : D165 tab := ⟨rfl, rfl⟩
theorem d194 : D194 tab := ⟨rfl, rfl⟩
theorem d180 : D180 tab := ⟨rfl, rfl, d194⟩
theorem d181 : D181 tab := ⟨rfl, rfl⟩
theorem d182 : D182 tab := ⟨rfl, rfl, d194⟩
theorem d183 : D183 tab := ⟨rfl, rfl⟩
theorem d166 : D166 tab := ⟨rfl, rfl, d165, d180, d181, d182, d183⟩
theorem d143 : D143 tab := ⟨rfl, rfl, d165, d166⟩
theorem d185 : D185 tab := ⟨rfl, rfl⟩
theorem d196 : D196 tab := ⟨rfl, rfl, d185⟩
theorem d195 : D195 tab := ⟨rfl, rfl, d196⟩
theorem d197 : D197 tab := ⟨rfl, rfl, d196⟩
theorem d198 : D198 tab := ⟨rfl, rfl⟩
theorem d210 : D210 tab := ⟨rfl, rfl, d196⟩
theorem d199 : D199 tab := ⟨rfl, rfl, d210⟩
theorem d201 : D201 tab := ⟨rfl, rfl⟩
theorem d200 : D200 tab := ⟨rfl, rfl, d201⟩
theorem d202 : D202 tab := ⟨rfl, rfl, d201⟩
theorem d203 : D203 tab := ⟨rfl, rfl, d198⟩
theorem d211 : D211 tab := ⟨rfl, rfl, d196⟩
theorem d204 : D204 tab := ⟨rfl, rfl, d211⟩
theorem d205 : D205 tab := ⟨rfl, rfl⟩
theorem d206 : D206 tab := ⟨rfl, rfl⟩
theorem d207 : D207 tab := ⟨rfl, rfl⟩
theorem d184 : D184 tab := ⟨rfl, rfl, d195, d197, d198, d199, d200, d202, d203, d204, d205, d206, d207⟩
theorem d167 : D167 tab := ⟨rfl, rfl, d184, d185⟩
theorem d144 : D144 tab := ⟨rfl, rfl, d148, d167⟩
theorem d110 : D110 tab := ⟨rfl, rfl, d112, d143, d144⟩
theorem own : ownKnob Try.prog.godebug = none := by kernel_rfl
theorem lifted (os : Os) (started : os.Started) (H : Type) (enc : TypeId × Value → H) :
    ReturnsInHanded {} Try.checked os 10 .any (Rows.listReducesSpec.pre6 enc Try.prog Try.f10 Rows.listReducesRow.domain false) (Rows.listReducesSpec.post enc Try.prog Try.f10 false true false false) := by
  refine returnsInHanded_of_change (C := Try.checked) own started (by kernel_rfl) Try.func10
    (ChangeSpec.witness6 (enc := enc) (C := Try.checked) false ⟨#[], #[.int .i64 0, .slice none 0 0], []⟩ 8 (by kernel_rfl) (by kernel_rfl) (by kernel_rfl) (by kernel_rfl)) ?_
  intro W base args ds gs before hval hW hcnd _
  exact row_contract (G := gOf gl) (n := 12) (ss := [.int .i64, .slice (.int .i64)]) (tb := 4) link (f := 10) (ir := ir110) rfl rfl (by kernel_rfl) (by kernel_rfl) (by kernel_rfl) rfl (by kernel_rfl) Try.underlying4 hval hW
    (fun hl => by
      have hp : Try.f10.params.toList.length = 2 := by kernel_rfl
      rw [hp] at hl
      refine match ds, hl with
      | [d1, d2], _ => ?_
      rfl) (fun K vs hw hg => law110 d110 hw hg)
theorem over : Rows.listReducesRow.holds Try.pinned (OpenSpec.ofChange Rows.listReducesSpec) :=
  OpenClaim.holds_of_wide 10 Try.f10 rfl rfl rfl rfl rfl rfl rfl ⟨rfl, rfl, rfl, rfl, rfl⟩ rfl rfl rfl rfl rfl (by kernel_rfl) Try.func10 (by kernel_rfl)
    (of_decide_eq_true (by kernel_rfl)) (by unfold Func.isWrapper; first | (rw [if_pos (by decide +kernel)]; kernel_rfl) | (rw [if_neg (by decide +kernel)]; exact ⟨rfl, rfl⟩))
    (fun os started H enc _ => lifted os started H enc)
end ListReduces_
/-- THE STATEMENT. -/
theorem listReduces_proved : Rows.ListReducesSaid := ListReduces_.over
#print axioms listReduces_proved
end Go.Proofs.Ytjmiblcdjkcgoaa
