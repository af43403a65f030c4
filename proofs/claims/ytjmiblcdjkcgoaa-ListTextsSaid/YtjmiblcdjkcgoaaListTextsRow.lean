/- The row of ListTexts: the functions that it reaches are those of the small machine, and what the small machine gives goes into the statement. Printed by mkrow.py. -/
import Derived.Test.YtjmiblcdjkcgoaaRows
import Derived.Test.YtjmiblcdjkcgoaaAmTexts3
import Derived.Test.YtjmiblcdjkcgoaaAmPrim
set_option linter.unusedVariables false
set_option maxRecDepth 100000
namespace Go.Proofs.Ytjmiblcdjkcgoaa
namespace ListTexts_
open Go.Am Go.RowKit Go.ChangeShapes

def gl : List Nat := [100,101,102,103,104,105,106,107,108,109,110,111,112,113,114,115,116,117,118,119,120,121,122,123,124,125,126,127,128,129,130,131,132,133,134,135,136,137,138,139,140,141,142,143,144,145,146,147,148,149,150,151,152,153,154,155,156,157,158,159,160,161,162,163,164,165,166,167,168,169,170,171,172,173,174,175,176,177,178,179,180,181,182,183,184,185,186,187,188,189,190,191,192,193,194,195,196,197,198,199,200,201,202,203,204,205,206,207,208,209,210,211,212,213,214,215,216,217,218,219,220,221,222,223,224,225,226,227,228,229,230,231]
def irs : List (Nat × AFunc) := [(114, ir114), (148, ir148), (150, ir150), (173, ir173), (149, ir149), (113, ir113), (135, ir135), (112, ir112), (176, ir176), (155, ir155), (125, ir125), (156, ir156), (126, ir126), (153, ir153), (157, ir157), (177, ir177), (158, ir158), (127, ir127), (192, ir192), (178, ir178), (160, ir160), (159, ir159), (128, ir128), (122, ir122), (107, ir107)]
def prims : Nat → Option (List AV → AHeap → Option (AV × AHeap)) := fun g => if g = 191 then some cmpPrim else none
def tab : Tab := tabOf irs prims
theorem k114 : compileFn Try.prog (gOf gl) Try.f14 = some ir114 := by kernel_rfl
theorem k148 : compileFn Try.prog (gOf gl) Try.f48 = some ir148 := by kernel_rfl
theorem k150 : compileFn Try.prog (gOf gl) Try.f50 = some ir150 := by kernel_rfl
theorem k173 : compileFn Try.prog (gOf gl) Try.f73 = some ir173 := by kernel_rfl
theorem k149 : compileFn Try.prog (gOf gl) Try.f49 = some ir149 := by kernel_rfl
theorem k113 : compileFn Try.prog (gOf gl) Try.f13 = some ir113 := by kernel_rfl
theorem k135 : compileFn Try.prog (gOf gl) Try.f35 = some ir135 := by kernel_rfl
theorem k112 : compileFn Try.prog (gOf gl) Try.f12 = some ir112 := by kernel_rfl
theorem k176 : compileFn Try.prog (gOf gl) Try.f76 = some ir176 := by kernel_rfl
theorem k155 : compileFn Try.prog (gOf gl) Try.f55 = some ir155 := by kernel_rfl
theorem k125 : compileFn Try.prog (gOf gl) Try.f25 = some ir125 := by kernel_rfl
theorem k156 : compileFn Try.prog (gOf gl) Try.f56 = some ir156 := by kernel_rfl
theorem k126 : compileFn Try.prog (gOf gl) Try.f26 = some ir126 := by kernel_rfl
theorem k153 : compileFn Try.prog (gOf gl) Try.f53 = some ir153 := by kernel_rfl
theorem k157 : compileFn Try.prog (gOf gl) Try.f57 = some ir157 := by kernel_rfl
theorem k177 : compileFn Try.prog (gOf gl) Try.f77 = some ir177 := by kernel_rfl
theorem k158 : compileFn Try.prog (gOf gl) Try.f58 = some ir158 := by kernel_rfl
theorem k127 : compileFn Try.prog (gOf gl) Try.f27 = some ir127 := by kernel_rfl
theorem k192 : compileFn Try.prog (gOf gl) Try.f92 = some ir192 := by kernel_rfl
theorem k178 : compileFn Try.prog (gOf gl) Try.f78 = some ir178 := by kernel_rfl
theorem k160 : compileFn Try.prog (gOf gl) Try.f60 = some ir160 := by kernel_rfl
theorem k159 : compileFn Try.prog (gOf gl) Try.f59 = some ir159 := by kernel_rfl
theorem k128 : compileFn Try.prog (gOf gl) Try.f28 = some ir128 := by kernel_rfl
theorem k122 : compileFn Try.prog (gOf gl) Try.f22 = some ir122 := by kernel_rfl
theorem k107 : compileFn Try.prog (gOf gl) Try.f7 = some ir107 := by kernel_rfl
theorem linked : Linked Try.prog (gOf gl) irs 0 gl := (.no rfl (.no rfl (.no rfl (.no rfl (.no rfl (.no rfl (.no rfl (.yes (ir := ir107) rfl Try.func7 k107 (.no rfl (.no rfl (.no rfl (.no rfl (.yes (ir := ir112) rfl Try.func12 k112 (.yes (ir := ir113) rfl Try.func13 k113 (.yes (ir := ir114) rfl Try.func14 k114 (.no rfl (.no rfl (.no rfl (.no rfl (.no rfl (.no rfl (.no rfl (.yes (ir := ir122) rfl Try.func22 k122 (.no rfl (.no rfl (.yes (ir := ir125) rfl Try.func25 k125 (.yes (ir := ir126) rfl Try.func26 k126 (.yes (ir := ir127) rfl Try.func27 k127 (.yes (ir := ir128) rfl Try.func28 k128 (.no rfl (.no rfl (.no rfl (.no rfl (.no rfl (.no rfl (.yes (ir := ir135) rfl Try.func35 k135 (.no rfl (.no rfl (.no rfl (.no rfl (.no rfl (.no rfl (.no rfl (.no rfl (.no rfl (.no rfl (.no rfl (.no rfl (.yes (ir := ir148) rfl Try.func48 k148 (.yes (ir := ir149) rfl Try.func49 k149 (.yes (ir := ir150) rfl Try.func50 k150 (.no rfl (.no rfl (.yes (ir := ir153) rfl Try.func53 k153 (.no rfl (.yes (ir := ir155) rfl Try.func55 k155 (.yes (ir := ir156) rfl Try.func56 k156 (.yes (ir := ir157) rfl Try.func57 k157 (.yes (ir := ir158) rfl Try.func58 k158 (.yes (ir := ir159) rfl Try.func59 k159 (.yes (ir := ir160) rfl Try.func60 k160 (.no rfl (.no rfl (.no rfl (.no rfl (.no rfl (.no rfl (.no rfl (.no rfl (.no rfl (.no rfl (.no rfl (.no rfl (.yes (ir := ir173) rfl Try.func73 k173 (.no rfl (.no rfl (.yes (ir := ir176) rfl Try.func76 k176 (.yes (ir := ir177) rfl Try.func77 k177 (.yes (ir := ir178) rfl Try.func78 k178 (.no rfl (.no rfl (.no rfl (.no rfl (.no rfl (.no rfl (.no rfl (.no rfl (.no rfl (.no rfl (.no rfl (.no rfl (.no rfl (.yes (ir := ir192) rfl Try.func92 k192 (.no rfl (.no rfl (.no rfl (.no rfl (.no rfl (.no rfl (.no rfl (.no rfl (.no rfl (.no rfl (.no rfl (.no rfl (.no rfl (.no rfl (.no rfl (.no rfl (.no rfl (.no rfl (.no rfl (.no rfl (.no rfl (.no rfl (.no rfl (.no rfl (.no rfl (.no rfl (.no rfl (.no rfl (.no rfl (.no rfl (.no rfl (.no rfl (.no rfl (.no rfl (.no rfl (.no rfl (.no rfl (.no rfl (.no rfl trivial))))))))))))))))))))))))))))))))))))))))))))))))))))))))))))))))))))))))))))))))))))))))))))))))))))))))))))))))))))))))))))))))))))
theorem primsOk : ∀ f q, prims (gOf gl f) = some q → ∀ args H v H', q args H = some (v, H') → ∀ B w0 E w us, HRel (gOf gl) B w0 E H w → VRs (gOf gl) H.next E args us → Back Try.prog (gOf gl) B w0 E H w (callFunc f us.toArray) v H' := by
  intro f q h
  unfold prims at h
  split at h
  · rename_i e
    simp only [Option.some.injEq] at h
    subst h
    have := gOf_at (gl := gl) (i := 91) (by decide) (by decide +kernel) e
    subst this
    exact cmp_back Try.func91 (by kernel_rfl) (by kernel_rfl) (by kernel_rfl) (by kernel_rfl)
  cases h
theorem link : Link Try.prog (gOf gl) tab.fn tab.prim := link_of (by kernel_rfl) (by decide) linked (by exact primsOk)
theorem d114 : D114 tab := ⟨rfl, rfl⟩
theorem d148 : D148 tab := ⟨rfl, rfl⟩
theorem d150 : D150 tab := ⟨rfl, rfl⟩
theorem d173 : D173 tab := ⟨rfl, rfl⟩
theorem d149 : D149 tab := ⟨rfl, rfl, d173⟩
theorem d113 : D113 tab := ⟨rfl, rfl, d148, d150, d149⟩
theorem d135 : D135 tab := ⟨rfl, rfl⟩
theorem d112 : D112 tab := ⟨rfl, rfl, d113, d135⟩
theorem d176 : D176 tab := ⟨rfl, rfl⟩
theorem d155 : D155 tab := ⟨rfl, rfl, d176⟩
theorem d125 : D125 tab := ⟨rfl, rfl, d155⟩
theorem d156 : D156 tab := ⟨rfl, rfl⟩
theorem d126 : D126 tab := ⟨rfl, rfl, d156⟩
theorem d153 : D153 tab := ⟨rfl, rfl⟩
theorem d157 : D157 tab := ⟨rfl, rfl, d153⟩
theorem d177 : D177 tab := ⟨rfl, rfl, rfl⟩
theorem d158 : D158 tab := ⟨rfl, rfl, d177⟩
theorem d127 : D127 tab := ⟨rfl, rfl, d148, d157, d158⟩
theorem d192 : D192 tab := ⟨rfl, rfl⟩
theorem d178 : D178 tab := ⟨rfl, rfl, d192⟩
theorem d160 : D160 tab := ⟨rfl, rfl, d178⟩
theorem d159 : D159 tab := ⟨rfl, rfl, d160⟩
theorem d128 : D128 tab := ⟨rfl, rfl, d159, d149⟩
theorem d122 : D122 tab := ⟨rfl, rfl⟩
theorem d107 : D107 tab := ⟨rfl, rfl, d114, d112, d125, d126, d127, d128, d122⟩
theorem own : ownKnob Try.prog.godebug = none := by kernel_rfl
theorem lifted (os : Os) (started : os.Started) (H : Type) (enc : TypeId × Value → H) :
    ReturnsInHanded {} Try.checked os 7 .any (Rows.listTextsSpec.pre6 enc Try.prog Try.f7 Rows.listTextsRow.domain false) (Rows.listTextsSpec.post enc Try.prog Try.f7 false true false false) := by
  refine returnsInHanded_of_change (C := Try.checked) own started (by kernel_rfl) Try.func7
    (ChangeSpec.witness6 (enc := enc) (C := Try.checked) false ⟨#[], #[.slice none 0 0, .slice none 0 0], []⟩ 8 (by kernel_rfl) (by kernel_rfl) (by kernel_rfl) (by kernel_rfl)) ?_
  intro W base args ds gs before hval hW hcnd _
  exact row_contract (G := gOf gl) (n := 12) (ss := [.slice .str, .slice (.int .i64)]) (tb := 4) link (f := 7) (ir := ir107) rfl rfl (by kernel_rfl) (by kernel_rfl) (by kernel_rfl) rfl (by kernel_rfl) Try.underlying4 hval hW
    (fun hl => by
      have hp : Try.f7.params.toList.length = 2 := by kernel_rfl
      rw [hp] at hl
      refine match ds, hl with
      | [d1, d2], _ => ?_
      rfl) (fun K vs hw hg => law107 d107 hw hg)
theorem over : Rows.listTextsRow.holds Try.pinned (OpenSpec.ofChange Rows.listTextsSpec) :=
  OpenClaim.holds_of_wide 7 Try.f7 rfl rfl rfl rfl rfl rfl rfl ⟨rfl, rfl, rfl, rfl, rfl⟩ rfl rfl rfl rfl rfl (by kernel_rfl) Try.func7 (by kernel_rfl)
    (of_decide_eq_true (by kernel_rfl)) (by unfold Func.isWrapper; first | (rw [if_pos (by decide +kernel)]; kernel_rfl) | (rw [if_neg (by decide +kernel)]; exact ⟨rfl, rfl⟩))
    (fun os started H enc _ => lifted os started H enc)
end ListTexts_
/-- THE STATEMENT. -/
theorem listTexts_proved : Rows.ListTextsSaid := ListTexts_.over
#print axioms listTexts_proved
end Go.Proofs.Ytjmiblcdjkcgoaa
