/- The row of ListUniq: the functions that it reaches are those of the small machine, and what the small machine gives goes into the statement. Printed by mkrow.py. -/
import Derived.Test.YtjmiblcdjkcgoaaRows
import Derived.Test.YtjmiblcdjkcgoaaAmUniq2
set_option linter.unusedVariables false
set_option maxRecDepth 100000
namespace Go.Proofs.Ytjmiblcdjkcgoaa
namespace ListUniq_
open Go.Am Go.RowKit Go.ChangeShapes

def gl : List Nat := [100,101,102,103,104,105,106,107,108,109,110,111,112,113,114,115,116,117,118,119,120,121,122,123,124,125,126,127,128,129,130,131,132,133,134,135,136,137,138,139,140,141,142,143,144,145,146,147,148,149,150,151,152,153,154,155,156,157,158,159,160,161,162,163,164,165,166,167,168,169,170,171,172,173,174,175,176,177,178,179,180,181,182,183,184,185,186,187,188,189,190,191,192,193,194,195,196,197,198,199,200,201,202,203,204,205,206,207,208,209,210,211,212,213,214,215,216,217,218,219,220,221,222,223,224,225,226,227,228,229,230,231]
def irs : List (Nat × AFunc) := [(114, ir114), (148, ir148), (150, ir150), (173, ir173), (149, ir149), (113, ir113), (135, ir135), (112, ir112), (161, ir161), (130, ir130), (129, ir129), (131, ir131), (193, ir193), (179, ir179), (162, ir162), (132, ir132), (133, ir133), (175, ir175), (154, ir154), (134, ir134), (122, ir122), (108, ir108)]
def prims : Nat → Option (List AV → AHeap → Option (AV × AHeap)) := fun _ => none
def tab : Tab := tabOf irs prims
theorem k114 : compileFn Try.prog (gOf gl) Try.f14 = some ir114 := by kernel_rfl
theorem k148 : compileFn Try.prog (gOf gl) Try.f48 = some ir148 := by kernel_rfl
theorem k150 : compileFn Try.prog (gOf gl) Try.f50 = some ir150 := by kernel_rfl
theorem k173 : compileFn Try.prog (gOf gl) Try.f73 = some ir173 := by kernel_rfl
theorem k149 : compileFn Try.prog (gOf gl) Try.f49 = some ir149 := by kernel_rfl
theorem k113 : compileFn Try.prog (gOf gl) Try.f13 = some ir113 := by kernel_rfl
theorem k135 : compileFn Try.prog (gOf gl) Try.f35 = some ir135 := by kernel_rfl
theorem k112 : compileFn Try.prog (gOf gl) Try.f12 = some ir112 := by kernel_rfl
theorem k161 : compileFn Try.prog (gOf gl) Try.f61 = some ir161 := by kernel_rfl
theorem k130 : compileFn Try.prog (gOf gl) Try.f30 = some ir130 := by kernel_rfl
theorem k129 : compileFn Try.prog (gOf gl) Try.f29 = some ir129 := by kernel_rfl
theorem k131 : compileFn Try.prog (gOf gl) Try.f31 = some ir131 := by kernel_rfl
theorem k193 : compileFn Try.prog (gOf gl) Try.f93 = some ir193 := by kernel_rfl
theorem k179 : compileFn Try.prog (gOf gl) Try.f79 = some ir179 := by kernel_rfl
theorem k162 : compileFn Try.prog (gOf gl) Try.f62 = some ir162 := by kernel_rfl
theorem k132 : compileFn Try.prog (gOf gl) Try.f32 = some ir132 := by kernel_rfl
theorem k133 : compileFn Try.prog (gOf gl) Try.f33 = some ir133 := by kernel_rfl
theorem k175 : compileFn Try.prog (gOf gl) Try.f75 = some ir175 := by kernel_rfl
theorem k154 : compileFn Try.prog (gOf gl) Try.f54 = some ir154 := by kernel_rfl
theorem k134 : compileFn Try.prog (gOf gl) Try.f34 = some ir134 := by kernel_rfl
theorem k122 : compileFn Try.prog (gOf gl) Try.f22 = some ir122 := by kernel_rfl
theorem k108 : compileFn Try.prog (gOf gl) Try.f8 = some ir108 := by kernel_rfl
theorem linked : Linked Try.prog (gOf gl) irs 0 gl := (.no rfl (.no rfl (.no rfl (.no rfl (.no rfl (.no rfl (.no rfl (.no rfl (.yes (ir := ir108) rfl Try.func8 k108 (.no rfl (.no rfl (.no rfl (.yes (ir := ir112) rfl Try.func12 k112 (.yes (ir := ir113) rfl Try.func13 k113 (.yes (ir := ir114) rfl Try.func14 k114 (.no rfl (.no rfl (.no rfl (.no rfl (.no rfl (.no rfl (.no rfl (.yes (ir := ir122) rfl Try.func22 k122 (.no rfl (.no rfl (.no rfl (.no rfl (.no rfl (.no rfl (.yes (ir := ir129) rfl Try.func29 k129 (.yes (ir := ir130) rfl Try.func30 k130 (.yes (ir := ir131) rfl Try.func31 k131 (.yes (ir := ir132) rfl Try.func32 k132 (.yes (ir := ir133) rfl Try.func33 k133 (.yes (ir := ir134) rfl Try.func34 k134 (.yes (ir := ir135) rfl Try.func35 k135 (.no rfl (.no rfl (.no rfl (.no rfl (.no rfl (.no rfl (.no rfl (.no rfl (.no rfl (.no rfl (.no rfl (.no rfl (.yes (ir := ir148) rfl Try.func48 k148 (.yes (ir := ir149) rfl Try.func49 k149 (.yes (ir := ir150) rfl Try.func50 k150 (.no rfl (.no rfl (.no rfl (.yes (ir := ir154) rfl Try.func54 k154 (.no rfl (.no rfl (.no rfl (.no rfl (.no rfl (.no rfl (.yes (ir := ir161) rfl Try.func61 k161 (.yes (ir := ir162) rfl Try.func62 k162 (.no rfl (.no rfl (.no rfl (.no rfl (.no rfl (.no rfl (.no rfl (.no rfl (.no rfl (.no rfl (.yes (ir := ir173) rfl Try.func73 k173 (.no rfl (.yes (ir := ir175) rfl Try.func75 k175 (.no rfl (.no rfl (.no rfl (.yes (ir := ir179) rfl Try.func79 k179 (.no rfl (.no rfl (.no rfl (.no rfl (.no rfl (.no rfl (.no rfl (.no rfl (.no rfl (.no rfl (.no rfl (.no rfl (.no rfl (.yes (ir := ir193) rfl Try.func93 k193 (.no rfl (.no rfl (.no rfl (.no rfl (.no rfl (.no rfl (.no rfl (.no rfl (.no rfl (.no rfl (.no rfl (.no rfl (.no rfl (.no rfl (.no rfl (.no rfl (.no rfl (.no rfl (.no rfl (.no rfl (.no rfl (.no rfl (.no rfl (.no rfl (.no rfl (.no rfl (.no rfl (.no rfl (.no rfl (.no rfl (.no rfl (.no rfl (.no rfl (.no rfl (.no rfl (.no rfl (.no rfl (.no rfl trivial))))))))))))))))))))))))))))))))))))))))))))))))))))))))))))))))))))))))))))))))))))))))))))))))))))))))))))))))))))))))))))))))))))
theorem link : Link Try.prog (gOf gl) tab.fn tab.prim := link_of (by kernel_rfl) (by decide) linked (fun f q h => by cases h)
theorem d114 : D114 tab := ⟨rfl, rfl⟩
theorem d148 : D148 tab := ⟨rfl, rfl⟩
theorem d150 : D150 tab := ⟨rfl, rfl⟩
theorem d173 : D173 tab := ⟨rfl, rfl⟩
theorem d149 : D149 tab := ⟨rfl, rfl, d173⟩
theorem d113 : D113 tab := ⟨rfl, rfl, d148, d150, d149⟩
theorem d135 : D135 tab := ⟨rfl, rfl⟩
theorem d112 : D112 tab := ⟨rfl, rfl, d113, d135⟩
theorem d161 : D161 tab := ⟨rfl, rfl⟩
theorem d130 : D130 tab := ⟨rfl, rfl, d161⟩
theorem d129 : D129 tab := ⟨rfl, rfl, d130⟩
theorem d131 : D131 tab := ⟨rfl, rfl, d161⟩
theorem d193 : D193 tab := ⟨rfl, rfl⟩
theorem d179 : D179 tab := ⟨rfl, rfl, d193⟩
theorem d162 : D162 tab := ⟨rfl, rfl, d179⟩
theorem d132 : D132 tab := ⟨rfl, rfl, d148, d162⟩
theorem d133 : D133 tab := ⟨rfl, rfl, d132⟩
theorem d175 : D175 tab := ⟨rfl, rfl⟩
theorem d154 : D154 tab := ⟨rfl, rfl, d175⟩
theorem d134 : D134 tab := ⟨rfl, rfl, d154, d162⟩
theorem d122 : D122 tab := ⟨rfl, rfl⟩
theorem d108 : D108 tab := ⟨rfl, rfl, d114, d112, d129, d130, d131, d132, d133, d134, d122, d135⟩
theorem own : ownKnob Try.prog.godebug = none := by kernel_rfl
theorem lifted (os : Os) (started : os.Started) (H : Type) (enc : TypeId × Value → H) :
    ReturnsInHanded {} Try.checked os 8 .any (Rows.listUniqSpec.pre6 enc Try.prog Try.f8 Rows.listUniqRow.domain false) (Rows.listUniqSpec.post enc Try.prog Try.f8 false true false false) := by
  refine returnsInHanded_of_change (C := Try.checked) own started (by kernel_rfl) Try.func8
    (ChangeSpec.witness6 (enc := enc) (C := Try.checked) false ⟨#[], #[.slice none 0 0, .slice none 0 0], []⟩ 8 (by kernel_rfl) (by kernel_rfl) (by kernel_rfl) (by kernel_rfl)) ?_
  intro W base args ds gs before hval hW hcnd _
  exact row_contract (G := gOf gl) (n := 12) (ss := [.slice .str, .slice .str]) (tb := 4) link (f := 8) (ir := ir108) rfl rfl (by kernel_rfl) (by kernel_rfl) (by kernel_rfl) rfl (by kernel_rfl) Try.underlying4 hval hW
    (fun hl => by
      have hp : Try.f8.params.toList.length = 2 := by kernel_rfl
      rw [hp] at hl
      refine match ds, hl with
      | [d1, d2], _ => ?_
      rfl) (fun K vs hw hg => law108 d108 hw hg)
theorem over : Rows.listUniqRow.holds Try.pinned (OpenSpec.ofChange Rows.listUniqSpec) :=
  OpenClaim.holds_of_wide 8 Try.f8 rfl rfl rfl rfl rfl rfl rfl ⟨rfl, rfl, rfl, rfl, rfl⟩ rfl rfl rfl rfl rfl (by kernel_rfl) Try.func8 (by kernel_rfl)
    (of_decide_eq_true (by kernel_rfl)) (by unfold Func.isWrapper; first | (rw [if_pos (by decide +kernel)]; kernel_rfl) | (rw [if_neg (by decide +kernel)]; exact ⟨rfl, rfl⟩))
    (fun os started H enc _ => lifted os started H enc)
end ListUniq_
/-- THE STATEMENT. -/
theorem listUniq_proved : Rows.ListUniqSaid := ListUniq_.over
#print axioms listUniq_proved
end Go.Proofs.Ytjmiblcdjkcgoaa
