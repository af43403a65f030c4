/- The row of ListNumbers: the functions that it reaches are those of the small machine, and what the small machine gives goes into the statement. Printed by mkrow.py. -/
import Derived.Test.YtjmiblcdjkcgoaaRows
import Derived.Test.YtjmiblcdjkcgoaaAmNumbers2
import Derived.Test.YtjmiblcdjkcgoaaAmPrim
set_option linter.unusedVariables false
set_option maxRecDepth 100000
namespace Go.Proofs.Ytjmiblcdjkcgoaa
namespace ListNumbers_
open Go.Am Go.RowKit Go.ChangeShapes

def gl : List Nat := [100,101,102,103,104,105,106,107,108,109,110,111,112,113,114,115,116,117,118,119,120,121,122,123,124,125,126,127,128,129,130,131,132,133,134,135,136,137,138,139,140,141,142,143,144,145,146,147,148,149,150,151,152,153,154,155,156,157,158,159,160,161,162,163,164,165,166,167,168,169,170,171,172,173,174,175,176,177,178,179,180,181,182,183,184,185,186,187,188,189,190,191,192,193,194,195,196,197,198,199,200,201,202,203,204,205,206,207,208,209,210,211,212,213,214,215,216,217,218,219,220,221,222,223,224,225,226,227,228,229,230,231]
def irs : List (Nat × AFunc) := [(145, ir145), (148, ir148), (150, ir150), (173, ir173), (149, ir149), (113, ir113), (135, ir135), (112, ir112), (165, ir165), (186, ir186), (168, ir168), (212, ir212), (213, ir213), (208, ir208), (187, ir187), (169, ir169), (156, ir156), (146, ir146), (185, ir185), (188, ir188), (214, ir214), (215, ir215), (209, ir209), (189, ir189), (170, ir170), (192, ir192), (178, ir178), (160, ir160), (172, ir172), (190, ir190), (171, ir171), (147, ir147), (117, ir117), (111, ir111)]
def prims : Nat → Option (List AV → AHeap → Option (AV × AHeap)) := fun _ => none
def tab : Tab := tabOf irs prims
theorem k145 : compileFn Try.prog (gOf gl) Try.f45 = some ir145 := by kernel_rfl
theorem k148 : compileFn Try.prog (gOf gl) Try.f48 = some ir148 := by kernel_rfl
theorem k150 : compileFn Try.prog (gOf gl) Try.f50 = some ir150 := by kernel_rfl
theorem k173 : compileFn Try.prog (gOf gl) Try.f73 = some ir173 := by kernel_rfl
theorem k149 : compileFn Try.prog (gOf gl) Try.f49 = some ir149 := by kernel_rfl
theorem k113 : compileFn Try.prog (gOf gl) Try.f13 = some ir113 := by kernel_rfl
theorem k135 : compileFn Try.prog (gOf gl) Try.f35 = some ir135 := by kernel_rfl
theorem k112 : compileFn Try.prog (gOf gl) Try.f12 = some ir112 := by kernel_rfl
theorem k165 : compileFn Try.prog (gOf gl) Try.f65 = some ir165 := by kernel_rfl
theorem k186 : compileFn Try.prog (gOf gl) Try.f86 = some ir186 := by kernel_rfl
theorem k168 : compileFn Try.prog (gOf gl) Try.f68 = some ir168 := by kernel_rfl
theorem k212 : compileFn Try.prog (gOf gl) Try.f112 = some ir212 := by kernel_rfl
theorem k213 : compileFn Try.prog (gOf gl) Try.f113 = some ir213 := by kernel_rfl
theorem k208 : compileFn Try.prog (gOf gl) Try.f108 = some ir208 := by kernel_rfl
theorem k187 : compileFn Try.prog (gOf gl) Try.f87 = some ir187 := by kernel_rfl
theorem k169 : compileFn Try.prog (gOf gl) Try.f69 = some ir169 := by kernel_rfl
theorem k156 : compileFn Try.prog (gOf gl) Try.f56 = some ir156 := by kernel_rfl
theorem k146 : compileFn Try.prog (gOf gl) Try.f46 = some ir146 := by kernel_rfl
theorem k185 : compileFn Try.prog (gOf gl) Try.f85 = some ir185 := by kernel_rfl
theorem k188 : compileFn Try.prog (gOf gl) Try.f88 = some ir188 := by kernel_rfl
theorem k214 : compileFn Try.prog (gOf gl) Try.f114 = some ir214 := by kernel_rfl
theorem k215 : compileFn Try.prog (gOf gl) Try.f115 = some ir215 := by kernel_rfl
theorem k209 : compileFn Try.prog (gOf gl) Try.f109 = some ir209 := by kernel_rfl
theorem k189 : compileFn Try.prog (gOf gl) Try.f89 = some ir189 := by kernel_rfl
theorem k170 : compileFn Try.prog (gOf gl) Try.f70 = some ir170 := by kernel_rfl
theorem k192 : compileFn Try.prog (gOf gl) Try.f92 = some ir192 := by kernel_rfl
theorem k178 : compileFn Try.prog (gOf gl) Try.f78 = some ir178 := by kernel_rfl
theorem k160 : compileFn Try.prog (gOf gl) Try.f60 = some ir160 := by kernel_rfl
theorem k172 : compileFn Try.prog (gOf gl) Try.f72 = some ir172 := by kernel_rfl
theorem k190 : compileFn Try.prog (gOf gl) Try.f90 = some ir190 := by kernel_rfl
theorem k171 : compileFn Try.prog (gOf gl) Try.f71 = some ir171 := by kernel_rfl
theorem k147 : compileFn Try.prog (gOf gl) Try.f47 = some ir147 := by kernel_rfl
theorem k117 : compileFn Try.prog (gOf gl) Try.f17 = some ir117 := by kernel_rfl
theorem k111 : compileFn Try.prog (gOf gl) Try.f11 = some ir111 := by kernel_rfl
theorem linked : Linked Try.prog (gOf gl) irs 0 gl := (.no rfl (.no rfl (.no rfl (.no rfl (.no rfl (.no rfl (.no rfl (.no rfl (.no rfl (.no rfl (.no rfl (.yes (ir := ir111) rfl Try.func11 k111 (.yes (ir := ir112) rfl Try.func12 k112 (.yes (ir := ir113) rfl Try.func13 k113 (.no rfl (.no rfl (.no rfl (.yes (ir := ir117) rfl Try.func17 k117 (.no rfl (.no rfl (.no rfl (.no rfl (.no rfl (.no rfl (.no rfl (.no rfl (.no rfl (.no rfl (.no rfl (.no rfl (.no rfl (.no rfl (.no rfl (.no rfl (.no rfl (.yes (ir := ir135) rfl Try.func35 k135 (.no rfl (.no rfl (.no rfl (.no rfl (.no rfl (.no rfl (.no rfl (.no rfl (.no rfl (.yes (ir := ir145) rfl Try.func45 k145 (.yes (ir := ir146) rfl Try.func46 k146 (.yes (ir := ir147) rfl Try.func47 k147 (.yes (ir := ir148) rfl Try.func48 k148 (.yes (ir := ir149) rfl Try.func49 k149 (.yes (ir := ir150) rfl Try.func50 k150 (.no rfl (.no rfl (.no rfl (.no rfl (.no rfl (.yes (ir := ir156) rfl Try.func56 k156 (.no rfl (.no rfl (.no rfl (.yes (ir := ir160) rfl Try.func60 k160 (.no rfl (.no rfl (.no rfl (.no rfl (.yes (ir := ir165) rfl Try.func65 k165 (.no rfl (.no rfl (.yes (ir := ir168) rfl Try.func68 k168 (.yes (ir := ir169) rfl Try.func69 k169 (.yes (ir := ir170) rfl Try.func70 k170 (.yes (ir := ir171) rfl Try.func71 k171 (.yes (ir := ir172) rfl Try.func72 k172 (.yes (ir := ir173) rfl Try.func73 k173 (.no rfl (.no rfl (.no rfl (.no rfl (.yes (ir := ir178) rfl Try.func78 k178 (.no rfl (.no rfl (.no rfl (.no rfl (.no rfl (.no rfl (.yes (ir := ir185) rfl Try.func85 k185 (.yes (ir := ir186) rfl Try.func86 k186 (.yes (ir := ir187) rfl Try.func87 k187 (.yes (ir := ir188) rfl Try.func88 k188 (.yes (ir := ir189) rfl Try.func89 k189 (.yes (ir := ir190) rfl Try.func90 k190 (.no rfl (.yes (ir := ir192) rfl Try.func92 k192 (.no rfl (.no rfl (.no rfl (.no rfl (.no rfl (.no rfl (.no rfl (.no rfl (.no rfl (.no rfl (.no rfl (.no rfl (.no rfl (.no rfl (.no rfl (.yes (ir := ir208) rfl Try.func108 k208 (.yes (ir := ir209) rfl Try.func109 k209 (.no rfl (.no rfl (.yes (ir := ir212) rfl Try.func112 k212 (.yes (ir := ir213) rfl Try.func113 k213 (.yes (ir := ir214) rfl Try.func114 k214 (.yes (ir := ir215) rfl Try.func115 k215 (.no rfl (.no rfl (.no rfl (.no rfl (.no rfl (.no rfl (.no rfl (.no rfl (.no rfl (.no rfl (.no rfl (.no rfl (.no rfl (.no rfl (.no rfl (.no rfl trivial))))))))))))))))))))))))))))))))))))))))))))))))))))))))))))))))))))))))))))))))))))))))))))))))))))))))))))))))))))))))))))))))))))
theorem link : Link Try.prog (gOf gl) tab.fn tab.prim := link_of (by kernel_rfl) (by decide) linked (fun f q h => by cases h)
theorem d145 : D145 tab := ⟨rfl, rfl⟩
theorem d148 : D148 tab := ⟨rfl, rfl⟩
theorem d150 : D150 tab := ⟨rfl, rfl⟩
theorem d173 : D173 tab := ⟨rfl, rfl⟩
theorem d149 : D149 tab := ⟨rfl, rfl, d173⟩
theorem d113 : D113 tab := ⟨rfl, rfl, d148, d150, d149⟩
theorem d135 : D135 tab := ⟨rfl, rfl⟩
theorem d112 : D112 tab := ⟨rfl, rfl, d113, d135⟩
theorem d165 : D165 tab := ⟨rfl, rfl⟩
theorem d186 : D186 tab := ⟨rfl, rfl, d165⟩
theorem d168 : D168 tab := ⟨rfl, rfl, d186⟩
theorem d212 : D212 tab := ⟨rfl, rfl⟩
theorem d213 : D213 tab := ⟨rfl, rfl⟩
theorem d208 : D208 tab := ⟨rfl, rfl, d212, d213⟩
theorem d187 : D187 tab := ⟨rfl, rfl, d208⟩
theorem d169 : D169 tab := ⟨rfl, rfl, d187⟩
theorem d156 : D156 tab := ⟨rfl, rfl⟩
theorem d146 : D146 tab := ⟨rfl, rfl, d168, d169, d156⟩
theorem d185 : D185 tab := ⟨rfl, rfl⟩
theorem d188 : D188 tab := ⟨rfl, rfl, d185⟩
theorem d214 : D214 tab := ⟨rfl, rfl⟩
theorem d215 : D215 tab := ⟨rfl, rfl⟩
theorem d209 : D209 tab := ⟨rfl, rfl, d214, d215⟩
theorem d189 : D189 tab := ⟨rfl, rfl, d209⟩
theorem d170 : D170 tab := ⟨rfl, rfl, d188, d189⟩
theorem d192 : D192 tab := ⟨rfl, rfl⟩
theorem d178 : D178 tab := ⟨rfl, rfl, d192⟩
theorem d160 : D160 tab := ⟨rfl, rfl, d178⟩
theorem d172 : D172 tab := ⟨rfl, rfl, d160⟩
theorem d190 : D190 tab := ⟨rfl, rfl⟩
theorem d171 : D171 tab := ⟨rfl, rfl, d190⟩
theorem d147 : D147 tab := ⟨rfl, rfl, d148, d170, d172, d171⟩
theorem d117 : D117 tab := ⟨rfl, rfl⟩
theorem d111 : D111 tab := ⟨rfl, rfl, d145, d112, d146, d147, d117⟩
theorem own : ownKnob Try.prog.godebug = none := by kernel_rfl
theorem lifted (os : Os) (started : os.Started) (H : Type) (enc : TypeId × Value → H) :
    ReturnsInHanded {} Try.checked os 11 .any (Rows.listNumbersSpec.pre6 enc Try.prog Try.f11 Rows.listNumbersRow.domain false) (Rows.listNumbersSpec.post enc Try.prog Try.f11 false true false false) := by
  refine returnsInHanded_of_change (C := Try.checked) own started (by kernel_rfl) Try.func11
    (ChangeSpec.witness6 (enc := enc) (C := Try.checked) false ⟨#[], #[.slice none 0 0, .bool false], []⟩ 8 (by kernel_rfl) (by kernel_rfl) (by kernel_rfl) (by kernel_rfl)) ?_
  intro W base args ds gs before hval hW hcnd _
  exact row_contract (G := gOf gl) (n := 12) (ss := [.slice shC, .bool]) (tb := 4) link (f := 11) (ir := ir111) rfl rfl (by kernel_rfl) (by kernel_rfl) (by kernel_rfl) rfl (by kernel_rfl) Try.underlying4 hval hW
    (fun hl => by
      have hp : Try.f11.params.toList.length = 2 := by kernel_rfl
      rw [hp] at hl
      refine match ds, hl with
      | [d1, d2], _ => ?_
      rfl) (fun K vs hw hg => law111 d111 hw hg)
theorem over : Rows.listNumbersRow.holds Try.pinned (OpenSpec.ofChange Rows.listNumbersSpec) :=
  OpenClaim.holds_of_wide 11 Try.f11 rfl rfl rfl rfl rfl rfl rfl ⟨rfl, rfl, rfl, rfl, rfl⟩ rfl rfl rfl rfl rfl (by kernel_rfl) Try.func11 (by kernel_rfl)
    (of_decide_eq_true (by kernel_rfl)) (by unfold Func.isWrapper; first | (rw [if_pos (by decide +kernel)]; kernel_rfl) | (rw [if_neg (by decide +kernel)]; exact ⟨rfl, rfl⟩))
    (fun os started H enc _ => lifted os started H enc)
end ListNumbers_
/-- THE STATEMENT. -/
theorem listNumbers_proved : Rows.ListNumbersSaid := ListNumbers_.over
#print axioms listNumbers_proved
end Go.Proofs.Ytjmiblcdjkcgoaa
