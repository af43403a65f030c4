/- The row of NumRadix: the functions that it reaches are those of the small machine, and what the small machine gives goes into the statement. Printed by mkrow.py. -/
import Derived.Test.YtepgjaknkjkpaaaRows
import Derived.Test.YtepgjaknkjkpaaaAmNum9
import Derived.Test.YtepgjaknkjkpaaaAmPrim
set_option linter.unusedVariables false
set_option maxRecDepth 100000
namespace Go.Proofs.Ytepgjaknkjkpaaa
namespace NumRadix_
open Go.Am Go.RowKit Go.ChangeShapes

def gl : List Nat := [100,101,102,232,233,234,235,236,237,238,239,240,241,242,243,166,167,194,244,155,245,246,160,176,247,248,249,250,170,209,214,208,212,165,180,181,182,183,184,185,158,198,178,251,252,253,254,188,189,215,213,195,196,197,199,200,201,202,203,204,205,206,207,177,192,255,256,257,258,259,260,261,210,211,191,262,263,264,265,266,267,216,217,218,219,220,221,222,223,224,225,226,227,228,229,230,268,231]
def irs : List (Nat × AFunc) := [(240, ir240), (185, ir185), (188, ir188), (214, ir214), (215, ir215), (209, ir209), (189, ir189), (170, ir170), (196, ir196), (195, ir195), (197, ir197), (198, ir198), (210, ir210), (199, ir199), (201, ir201), (200, ir200), (202, ir202), (203, ir203), (211, ir211), (204, ir204), (205, ir205), (206, ir206), (207, ir207), (184, ir184), (167, ir167), (242, ir242), (241, ir241), (213, ir213), (255, ir255), (251, ir251), (247, ir247), (256, ir256), (252, ir252), (253, ir253), (248, ir248), (238, ir238)]
def prims : Nat → Option (List AV → AHeap → Option (AV × AHeap)) := fun _ => none
def tab : Tab := tabOf irs prims
theorem k240 : compileFn Try.prog (gOf gl) Try.f11 = some ir240 := by kernel_rfl
theorem k185 : compileFn Try.prog (gOf gl) Try.f39 = some ir185 := by kernel_rfl
theorem k188 : compileFn Try.prog (gOf gl) Try.f47 = some ir188 := by kernel_rfl
theorem k214 : compileFn Try.prog (gOf gl) Try.f30 = some ir214 := by kernel_rfl
theorem k215 : compileFn Try.prog (gOf gl) Try.f49 = some ir215 := by kernel_rfl
theorem k209 : compileFn Try.prog (gOf gl) Try.f29 = some ir209 := by kernel_rfl
theorem k189 : compileFn Try.prog (gOf gl) Try.f48 = some ir189 := by kernel_rfl
theorem k170 : compileFn Try.prog (gOf gl) Try.f28 = some ir170 := by kernel_rfl
theorem k196 : compileFn Try.prog (gOf gl) Try.f52 = some ir196 := by kernel_rfl
theorem k195 : compileFn Try.prog (gOf gl) Try.f51 = some ir195 := by kernel_rfl
theorem k197 : compileFn Try.prog (gOf gl) Try.f53 = some ir197 := by kernel_rfl
theorem k198 : compileFn Try.prog (gOf gl) Try.f41 = some ir198 := by kernel_rfl
theorem k210 : compileFn Try.prog (gOf gl) Try.f72 = some ir210 := by kernel_rfl
theorem k199 : compileFn Try.prog (gOf gl) Try.f54 = some ir199 := by kernel_rfl
theorem k201 : compileFn Try.prog (gOf gl) Try.f56 = some ir201 := by kernel_rfl
theorem k200 : compileFn Try.prog (gOf gl) Try.f55 = some ir200 := by kernel_rfl
theorem k202 : compileFn Try.prog (gOf gl) Try.f57 = some ir202 := by kernel_rfl
theorem k203 : compileFn Try.prog (gOf gl) Try.f58 = some ir203 := by kernel_rfl
theorem k211 : compileFn Try.prog (gOf gl) Try.f73 = some ir211 := by kernel_rfl
theorem k204 : compileFn Try.prog (gOf gl) Try.f59 = some ir204 := by kernel_rfl
theorem k205 : compileFn Try.prog (gOf gl) Try.f60 = some ir205 := by kernel_rfl
theorem k206 : compileFn Try.prog (gOf gl) Try.f61 = some ir206 := by kernel_rfl
theorem k207 : compileFn Try.prog (gOf gl) Try.f62 = some ir207 := by kernel_rfl
theorem k184 : compileFn Try.prog (gOf gl) Try.f38 = some ir184 := by kernel_rfl
theorem k167 : compileFn Try.prog (gOf gl) Try.f16 = some ir167 := by kernel_rfl
theorem k242 : compileFn Try.prog (gOf gl) Try.f13 = some ir242 := by kernel_rfl
theorem k241 : compileFn Try.prog (gOf gl) Try.f12 = some ir241 := by kernel_rfl
theorem k213 : compileFn Try.prog (gOf gl) Try.f50 = some ir213 := by kernel_rfl
theorem k255 : compileFn Try.prog (gOf gl) Try.f65 = some ir255 := by kernel_rfl
theorem k251 : compileFn Try.prog (gOf gl) Try.f43 = some ir251 := by kernel_rfl
theorem k247 : compileFn Try.prog (gOf gl) Try.f24 = some ir247 := by kernel_rfl
theorem k256 : compileFn Try.prog (gOf gl) Try.f66 = some ir256 := by kernel_rfl
theorem k252 : compileFn Try.prog (gOf gl) Try.f44 = some ir252 := by kernel_rfl
theorem k253 : compileFn Try.prog (gOf gl) Try.f45 = some ir253 := by kernel_rfl
theorem k248 : compileFn Try.prog (gOf gl) Try.f25 = some ir248 := by kernel_rfl
theorem k238 : compileFn Try.prog (gOf gl) Try.f9 = some ir238 := by kernel_rfl
theorem linked : Linked Try.prog (gOf gl) irs 0 gl := (.no rfl (.no rfl (.no rfl (.no rfl (.no rfl (.no rfl (.no rfl (.no rfl (.no rfl (.yes (ir := ir238) rfl Try.func9 k238 (.no rfl (.yes (ir := ir240) rfl Try.func11 k240 (.yes (ir := ir241) rfl Try.func12 k241 (.yes (ir := ir242) rfl Try.func13 k242 (.no rfl (.no rfl (.yes (ir := ir167) rfl Try.func16 k167 (.no rfl (.no rfl (.no rfl (.no rfl (.no rfl (.no rfl (.no rfl (.yes (ir := ir247) rfl Try.func24 k247 (.yes (ir := ir248) rfl Try.func25 k248 (.no rfl (.no rfl (.yes (ir := ir170) rfl Try.func28 k170 (.yes (ir := ir209) rfl Try.func29 k209 (.yes (ir := ir214) rfl Try.func30 k214 (.no rfl (.no rfl (.no rfl (.no rfl (.no rfl (.no rfl (.no rfl (.yes (ir := ir184) rfl Try.func38 k184 (.yes (ir := ir185) rfl Try.func39 k185 (.no rfl (.yes (ir := ir198) rfl Try.func41 k198 (.no rfl (.yes (ir := ir251) rfl Try.func43 k251 (.yes (ir := ir252) rfl Try.func44 k252 (.yes (ir := ir253) rfl Try.func45 k253 (.no rfl (.yes (ir := ir188) rfl Try.func47 k188 (.yes (ir := ir189) rfl Try.func48 k189 (.yes (ir := ir215) rfl Try.func49 k215 (.yes (ir := ir213) rfl Try.func50 k213 (.yes (ir := ir195) rfl Try.func51 k195 (.yes (ir := ir196) rfl Try.func52 k196 (.yes (ir := ir197) rfl Try.func53 k197 (.yes (ir := ir199) rfl Try.func54 k199 (.yes (ir := ir200) rfl Try.func55 k200 (.yes (ir := ir201) rfl Try.func56 k201 (.yes (ir := ir202) rfl Try.func57 k202 (.yes (ir := ir203) rfl Try.func58 k203 (.yes (ir := ir204) rfl Try.func59 k204 (.yes (ir := ir205) rfl Try.func60 k205 (.yes (ir := ir206) rfl Try.func61 k206 (.yes (ir := ir207) rfl Try.func62 k207 (.no rfl (.no rfl (.yes (ir := ir255) rfl Try.func65 k255 (.yes (ir := ir256) rfl Try.func66 k256 (.no rfl (.no rfl (.no rfl (.no rfl (.no rfl (.yes (ir := ir210) rfl Try.func72 k210 (.yes (ir := ir211) rfl Try.func73 k211 (.no rfl (.no rfl (.no rfl (.no rfl (.no rfl (.no rfl (.no rfl (.no rfl (.no rfl (.no rfl (.no rfl (.no rfl (.no rfl (.no rfl (.no rfl (.no rfl (.no rfl (.no rfl (.no rfl (.no rfl (.no rfl (.no rfl (.no rfl (.no rfl trivial))))))))))))))))))))))))))))))))))))))))))))))))))))))))))))))))))))))))))))))))))))))))))))))))))
theorem link : Link Try.prog (gOf gl) tab.fn tab.prim := link_of (by kernel_rfl) (by decide) linked (fun f q h => by cases h)
theorem d240 : D240 tab := ⟨rfl, rfl⟩
theorem d185 : D185 tab := ⟨rfl, rfl⟩
theorem d188 : D188 tab := ⟨rfl, rfl, d185⟩
theorem d214 : D214 tab := ⟨rfl, rfl⟩
theorem d215 : D215 tab := ⟨rfl, rfl⟩
theorem d209 : D209 tab := ⟨rfl, rfl, d214, d215⟩
theorem d189 : D189 tab := ⟨rfl, rfl, d209⟩
theorem d170 : D170 tab := ⟨rfl, rfl, d188, d189⟩
theorem d196 : D196 tab := ⟨rfl, rfl, d185⟩
theorem d195 : D195 tab := ⟨rfl, rfl, d196⟩
theorem d197 : D197 tab := ⟨rfl, rfl, d196⟩
theorem d198 : D198 tab := ⟨rfl, rfl⟩
theorem d210 : D210 tab := ⟨rfl, rfl, d196⟩
theorem d199 : D199 tab := ⟨rfl, rfl, d210⟩
theorem d201 : D201 tab := ⟨rfl, rfl⟩
theorem d200 : D200 tab := ⟨rfl, rfl, d201⟩
theorem d202 : D202 tab := ⟨rfl, rfl, d201⟩
theorem d203 : D203 tab := ⟨rfl, rfl, d198⟩
theorem d211 : D211 tab := ⟨rfl, rfl, d196⟩
theorem d204 : D204 tab := ⟨rfl, rfl, d211⟩
theorem d205 : D205 tab := ⟨rfl, rfl⟩
theorem d206 : D206 tab := ⟨rfl, rfl⟩
theorem d207 : D207 tab := ⟨rfl, rfl⟩
theorem d184 : D184 tab := ⟨rfl, rfl, d195, d197, d198, d199, d200, d202, d203, d204, d205, d206, d207⟩
theorem d167 : D167 tab := ⟨rfl, rfl, d184, d185⟩
theorem d242 : D242 tab := ⟨rfl, rfl, d209, d214⟩
theorem d241 : D241 tab := ⟨rfl, rfl, d170, d167, d242⟩
theorem d213 : D213 tab := ⟨rfl, rfl⟩
theorem d255 : D255 tab := ⟨rfl, rfl, d213⟩
theorem d251 : D251 tab := ⟨rfl, rfl, d255⟩
theorem d247 : D247 tab := ⟨rfl, rfl, d251⟩
theorem d256 : D256 tab := ⟨rfl, rfl⟩
theorem d252 : D252 tab := ⟨rfl, rfl, d256⟩
theorem d253 : D253 tab := ⟨rfl, rfl, d215⟩
theorem d248 : D248 tab := ⟨rfl, rfl, d252, d253⟩
theorem d238 : D238 tab := ⟨rfl, rfl, d240, d241, d247, d248⟩
theorem own : ownKnob Try.prog.godebug = none := by kernel_rfl
theorem lifted (os : Os) (started : os.Started) (H : Type) (enc : TypeId × Value → H) :
    ReturnsInHanded {} Try.checked os 9 .any (Rows.numRadixSpec.pre6 enc Try.prog Try.f9 Rows.numRadixRow.domain false) (Rows.numRadixSpec.post enc Try.prog Try.f9 false true false false) := by
  refine returnsInHanded_of_change (C := Try.checked) own started (by kernel_rfl) Try.func9
    (ChangeSpec.witness6 (enc := enc) (C := Try.checked) false ⟨#[], #[.string ⟨#[]⟩], []⟩ 8 (by kernel_rfl) (by kernel_rfl) (by kernel_rfl) (by kernel_rfl)) ?_
  intro W base args ds gs before hval hW hcnd _
  exact row_contract (G := gOf gl) (n := 12) (ss := [.str]) (tb := 4) link (f := 9) (ir := ir238) rfl rfl (by kernel_rfl) (by kernel_rfl) (by kernel_rfl) rfl (by kernel_rfl) Try.underlying4 hval hW
    (fun hl => by
      have hp : Try.f9.params.toList.length = 1 := by kernel_rfl
      rw [hp] at hl
      refine match ds, hl with
      | [d1], _ => ?_
      rfl) (fun K vs hw hg => law238 d238 hw hg)
theorem over : Rows.numRadixRow.holds Try.pinned (OpenSpec.ofChange Rows.numRadixSpec) :=
  OpenClaim.holds_of_wide 9 Try.f9 rfl rfl rfl rfl rfl rfl rfl ⟨rfl, rfl, rfl, rfl, rfl⟩ rfl rfl rfl rfl rfl (by kernel_rfl) Try.func9 (by kernel_rfl)
    (of_decide_eq_true (by kernel_rfl)) (by unfold Func.isWrapper; first | (rw [if_pos (by decide +kernel)]; kernel_rfl) | (rw [if_neg (by decide +kernel)]; exact ⟨rfl, rfl⟩))
    (fun os started H enc _ => lifted os started H enc)
end NumRadix_
/-- THE STATEMENT. -/
theorem numRadix_proved : Rows.NumRadixSaid := NumRadix_.over
#print axioms numRadix_proved
end Go.Proofs.Ytepgjaknkjkpaaa
