/- The row of ListSplices: the functions that it reaches are those of the small machine, and what the small machine gives goes into the statement. Printed by mkrow.py. -/
import Derived.Test.YtjmiblcdjkcgoaaRows
import Derived.Test.YtjmiblcdjkcgoaaAmSplice
set_option linter.unusedVariables false
set_option maxRecDepth 100000
namespace Go.Proofs.Ytjmiblcdjkcgoaa
namespace ListSplices_
open Go.Am Go.RowKit Go.ChangeShapes

def gl : List Nat := [100,101,102,103,104,105,106,107,108,109,110,111,112,113,114,115,116,117,118,119,120,121,122,123,124,125,126,127,128,129,130,131,132,133,134,135,136,137,138,139,140,141,142,143,144,145,146,147,148,149,150,151,152,153,154,155,156,157,158,159,160,161,162,163,164,165,166,167,168,169,170,171,172,173,174,175,176,177,178,179,180,181,182,183,184,185,186,187,188,189,190,191,192,193,194,195,196,197,198,199,200,201,202,203,204,205,206,207,208,209,210,211,212,213,214,215,216,217,218,219,220,221,222,223,224,225,226,227,228,229,230,231]
def irs : List (Nat × AFunc) := [(114, ir114), (148, ir148), (150, ir150), (173, ir173), (149, ir149), (113, ir113), (135, ir135), (112, ir112), (123, ir123), (175, ir175), (154, ir154), (153, ir153), (124, ir124), (122, ir122), (106, ir106)]
def prims : Nat → Option (List AV → AHeap → Option (AV × AHeap)) := fun _ => none
def tab : Tab := tabOf irs prims
theorem k114 : compileFn Try.prog (gOf gl) Try.f14 = some ir114 := by kernel_rfl
theorem k148 : compileFn Try.prog (gOf gl) Try.f48 = some ir148 := by kernel_rfl
theorem k150 : compileFn Try.prog (gOf gl) Try.f50 = some ir150 := by kernel_rfl
theorem k173 : compileFn Try.prog (gOf gl) Try.f73 = some ir173 := by kernel_rfl
theorem k149 : compileFn Try.prog (gOf gl) Try.f49 = some ir149 := by kernel_rfl
theorem k113 : compileFn Try.prog (gOf gl) Try.f13 = some ir113 := by kernel_rfl
theorem k135 : compileFn Try.prog (gOf gl) Try.f35 = some ir135 := by kernel_rfl
theorem k112 : compileFn Try.prog (gOf gl) Try.f12 = some ir112 := by kernel_rfl
theorem k123 : compileFn Try.prog (gOf gl) Try.f23 = some ir123 := by kernel_rfl
theorem k175 : compileFn Try.prog (gOf gl) Try.f75 = some ir175 := by kernel_rfl
theorem k154 : compileFn Try.prog (gOf gl) Try.f54 = some ir154 := by kernel_rfl
theorem k153 : compileFn Try.prog (gOf gl) Try.f53 = some ir153 := by kernel_rfl
theorem k124 : compileFn Try.prog (gOf gl) Try.f24 = some ir124 := by kernel_rfl
theorem k122 : compileFn Try.prog (gOf gl) Try.f22 = some ir122 := by kernel_rfl
theorem k106 : compileFn Try.prog (gOf gl) Try.f6 = some ir106 := by kernel_rfl
theorem linked : Linked Try.prog (gOf gl) irs 0 gl := (.no rfl (.no rfl (.no rfl (.no rfl (.no rfl (.no rfl (.yes (ir := ir106) rfl Try.func6 k106 (.no rfl (.no rfl (.no rfl (.no rfl (.no rfl (.yes (ir := ir112) rfl Try.func12 k112 (.yes (ir := ir113) rfl Try.func13 k113 (.yes (ir := ir114) rfl Try.func14 k114 (.no rfl (.no rfl (.no rfl (.no rfl (.no rfl (.no rfl (.no rfl (.yes (ir := ir122) rfl Try.func22 k122 (.yes (ir := ir123) rfl Try.func23 k123 (.yes (ir := ir124) rfl Try.func24 k124 (.no rfl (.no rfl (.no rfl (.no rfl (.no rfl (.no rfl (.no rfl (.no rfl (.no rfl (.no rfl (.yes (ir := ir135) rfl Try.func35 k135 (.no rfl (.no rfl (.no rfl (.no rfl (.no rfl (.no rfl (.no rfl (.no rfl (.no rfl (.no rfl (.no rfl (.no rfl (.yes (ir := ir148) rfl Try.func48 k148 (.yes (ir := ir149) rfl Try.func49 k149 (.yes (ir := ir150) rfl Try.func50 k150 (.no rfl (.no rfl (.yes (ir := ir153) rfl Try.func53 k153 (.yes (ir := ir154) rfl Try.func54 k154 (.no rfl (.no rfl (.no rfl (.no rfl (.no rfl (.no rfl (.no rfl (.no rfl (.no rfl (.no rfl (.no rfl (.no rfl (.no rfl (.no rfl (.no rfl (.no rfl (.no rfl (.no rfl (.yes (ir := ir173) rfl Try.func73 k173 (.no rfl (.yes (ir := ir175) rfl Try.func75 k175 (.no rfl (.no rfl (.no rfl (.no rfl (.no rfl (.no rfl (.no rfl (.no rfl (.no rfl (.no rfl (.no rfl (.no rfl (.no rfl (.no rfl (.no rfl (.no rfl (.no rfl (.no rfl (.no rfl (.no rfl (.no rfl (.no rfl (.no rfl (.no rfl (.no rfl (.no rfl (.no rfl (.no rfl (.no rfl (.no rfl (.no rfl (.no rfl (.no rfl (.no rfl (.no rfl (.no rfl (.no rfl (.no rfl (.no rfl (.no rfl (.no rfl (.no rfl (.no rfl (.no rfl (.no rfl (.no rfl (.no rfl (.no rfl (.no rfl (.no rfl (.no rfl (.no rfl (.no rfl (.no rfl (.no rfl (.no rfl trivial))))))))))))))))))))))))))))))))))))))))))))))))))))))))))))))))))))))))))))))))))))))))))))))))))))))))))))))))))))))))))))))))))))
theorem link : Link Try.prog (gOf gl) tab.fn tab.prim := link_of (by kernel_rfl) (by decide) linked (fun f q h => by cases h)
theorem d114 : D114 tab := ⟨rfl, rfl⟩
theorem d148 : D148 tab := ⟨rfl, rfl⟩
theorem d150 : D150 tab := ⟨rfl, rfl⟩
theorem d173 : D173 tab := ⟨rfl, rfl⟩
theorem d149 : D149 tab := ⟨rfl, rfl, d173⟩
theorem d113 : D113 tab := ⟨rfl, rfl, d148, d150, d149⟩
theorem d135 : D135 tab := ⟨rfl, rfl⟩
theorem d112 : D112 tab := ⟨rfl, rfl, d113, d135⟩
theorem d123 : D123 tab := ⟨rfl, rfl⟩
theorem d175 : D175 tab := ⟨rfl, rfl⟩
theorem d154 : D154 tab := ⟨rfl, rfl, d175⟩
theorem d153 : D153 tab := ⟨rfl, rfl⟩
theorem d124 : D124 tab := ⟨rfl, rfl, d154, d148, d153⟩
theorem d122 : D122 tab := ⟨rfl, rfl⟩
theorem d106 : D106 tab := ⟨rfl, rfl, d114, d112, d123, d124, d122⟩
theorem own : ownKnob Try.prog.godebug = none := by kernel_rfl
theorem lifted (os : Os) (started : os.Started) (H : Type) (enc : TypeId × Value → H) :
    ReturnsInHanded {} Try.checked os 6 .any (Rows.listSplicesSpec.pre6 enc Try.prog Try.f6 Rows.listSplicesRow.domain false) (Rows.listSplicesSpec.post enc Try.prog Try.f6 false true false false) := by
  refine returnsInHanded_of_change (C := Try.checked) own started (by kernel_rfl) Try.func6
    (ChangeSpec.witness6 (enc := enc) (C := Try.checked) false ⟨#[], #[.agg #[.slice none 0 0, .slice none 0 0], .int .i64 0, .int .i64 0], []⟩ 8 (by kernel_rfl) (by kernel_rfl) (by kernel_rfl) (by kernel_rfl)) ?_
  intro W base args ds gs before hval hW hcnd _
  exact row_contract (G := gOf gl) (n := 12) (ss := [.consA (.slice .str) (.consA (.slice .str) .nilA), .int .i64, .int .i64]) (tb := 4) link (f := 6) (ir := ir106) rfl rfl (by kernel_rfl) (by kernel_rfl) (by kernel_rfl) rfl (by kernel_rfl) Try.underlying4 hval hW
    (fun hl => by
      have hp : Try.f6.params.toList.length = 3 := by kernel_rfl
      rw [hp] at hl
      refine match ds, hl with
      | [d1, d2, d3], _ => ?_
      rfl) (fun K vs hw hg => law106 d106 hw hg)
theorem over : Rows.listSplicesRow.holds Try.pinned (OpenSpec.ofChange Rows.listSplicesSpec) :=
  OpenClaim.holds_of_wide 6 Try.f6 rfl rfl rfl rfl rfl rfl rfl ⟨rfl, rfl, rfl, rfl, rfl⟩ rfl rfl rfl rfl rfl (by kernel_rfl) Try.func6 (by kernel_rfl)
    (of_decide_eq_true (by kernel_rfl)) (by unfold Func.isWrapper; first | (rw [if_pos (by decide +kernel)]; kernel_rfl) | (rw [if_neg (by decide +kernel)]; exact ⟨rfl, rfl⟩))
    (fun os started H enc _ => lifted os started H enc)
end ListSplices_
/-- THE STATEMENT. -/
theorem listSplices_proved : Rows.ListSplicesSaid := ListSplices_.over
#print axioms listSplices_proved
end Go.Proofs.Ytjmiblcdjkcgoaa
