/- The row of NumRepeats: the functions that it reaches are those of the small machine, and what the small machine gives goes into the statement. Printed by mkrow.py. -/
import Derived.Test.YtepgjaknkjkpaaaRows
import Derived.Test.YtepgjaknkjkpaaaAmRepeat
import Derived.Test.YtepgjaknkjkpaaaAmPrim
import Derived.Test.YtepgjaknkjkpaaaAmPrimR
set_option linter.unusedVariables false
set_option maxRecDepth 100000
namespace Go.Proofs.Ytepgjaknkjkpaaa
namespace NumRepeats_
open Go.Am Go.RowKit Go.ChangeShapes Go.Shelf

def lays105_ren : Ren := ⟨fun x => match x with | 105 => 46 | 212 => 67 | 99 => 44 | 165 => 68 | 166 => 69 | 170 => 70 | 169 => 71 | 263 => 75 | 264 => 76 | 206 => 66 | 240 => 77 | 241 => 78 | 276 => 79 | 277 => 80 | n => n,
  fun x => match x with | 9 => 9 | 3 => 3 | 4 => 4 | 20 => 20 | 0 => 0 | 46 => 61 | 109 => 62 | 5 => 5 | 72 => 67 | 76 => 71 | 51 => 75 | 146 => 76 | 53 => 78 | 148 => 79 | 70 => 64 | 37 => 65 | 75 => 70 | 127 => 81 | 164 => 82 | 80 => 74 | n => n,
  fun x => x⟩
theorem lays105 : Lays.n105 Try.prog lays105_ren where
  mixed := by kernel_rfl
  f99 := by kernel_rfl
  f105 := by kernel_rfl
  f165 := by kernel_rfl
  f166 := by kernel_rfl
  f169 := by kernel_rfl
  f170 := by kernel_rfl
  f206 := by kernel_rfl
  f212 := by kernel_rfl
  f240 := by kernel_rfl
  f241 := by kernel_rfl
  f263 := by kernel_rfl
  f264 := by kernel_rfl
  f276 := by kernel_rfl
  f277 := by kernel_rfl
  t0 := Try.underlying0
  a0 := Try.isAgg0
  z0 := Try.sizeOf0
  v0 := Try.zeroValue0
  t3 := Try.underlying3
  a3 := Try.isAgg3
  z3 := Try.sizeOf3
  v3 := Try.zeroValue3
  t4 := Try.underlying4
  a4 := Try.isAgg4
  z4 := Try.sizeOf4
  v4 := Try.zeroValue4
  t5 := Try.underlying5
  a5 := Try.isAgg5
  z5 := Try.sizeOf5
  v5 := Try.zeroValue5
  t9 := Try.underlying9
  a9 := Try.isAgg9
  z9 := Try.sizeOf9
  v9 := Try.zeroValue9
  t20 := Try.underlying20
  a20 := Try.isAgg20
  z20 := Try.sizeOf20
  v20 := Try.zeroValue20
  t37 := Try.underlying65
  a37 := Try.isAgg65
  z37 := Try.sizeOf65
  v37 := Try.zeroValue65
  t46 := Try.underlying61
  a46 := Try.isAgg61
  z46 := Try.sizeOf61
  v46 := Try.zeroValue61
  t51 := Try.underlying75
  a51 := Try.isAgg75
  z51 := Try.sizeOf75
  v51 := Try.zeroValue75
  t53 := Try.underlying78
  a53 := Try.isAgg78
  z53 := Try.sizeOf78
  v53 := Try.zeroValue78
  t70 := Try.underlying64
  a70 := Try.isAgg64
  z70 := Try.sizeOf64
  v70 := Try.zeroValue64
  t72 := Try.underlying67
  a72 := Try.isAgg67
  z72 := Try.sizeOf67
  v72 := Try.zeroValue67
  t75 := Try.underlying70
  a75 := Try.isAgg70
  z75 := Try.sizeOf70
  v75 := Try.zeroValue70
  t76 := Try.underlying71
  a76 := Try.isAgg71
  z76 := Try.sizeOf71
  v76 := Try.zeroValue71
  t109 := Try.underlying62
  a109 := Try.isAgg62
  z109 := Try.sizeOf62
  v109 := Try.zeroValue62
  t127 := Try.underlying81
  a127 := Try.isAgg81
  z127 := Try.sizeOf81
  v127 := Try.zeroValue81
  t146 := Try.underlying76
  a146 := Try.isAgg76
  z146 := Try.sizeOf76
  v146 := Try.zeroValue76
  t148 := Try.underlying79
  a148 := Try.isAgg79
  z148 := Try.sizeOf79
  v148 := Try.zeroValue79
  t164 := Try.underlying82
  a164 := Try.isAgg82
  z164 := Try.sizeOf82
  v164 := Try.zeroValue82
theorem extra105 : Builder.Extra Try.prog lays105_ren := ⟨⟨by kernel_rfl, by kernel_rfl⟩, Try.underlying5, Try.isAgg5, Try.sizeOf5, Try.zeroValue5, by kernel_rfl, by kernel_rfl, by kernel_rfl, by decide⟩

def gl : List Nat := [100,101,102,232,233,234,235,236,237,238,239,240,241,242,243,166,167,194,244,155,245,246,160,176,247,248,249,250,170,209,214,208,212,165,180,181,182,183,184,185,158,198,178,251,252,253,254,188,189,215,213,195,196,197,199,200,201,202,203,204,205,206,207,177,192,255,256,257,258,259,260,261,210,211,191,262,263,264,265,266,267,216,217,218,219,220,221,222,223,224,225,226,227,228,229,230,268,231]
def irs : List (Nat × AFunc) := [(240, ir240), (185, ir185), (188, ir188), (214, ir214), (215, ir215), (209, ir209), (189, ir189), (170, ir170), (196, ir196), (195, ir195), (197, ir197), (198, ir198), (210, ir210), (199, ir199), (201, ir201), (200, ir200), (202, ir202), (203, ir203), (211, ir211), (204, ir204), (205, ir205), (206, ir206), (207, ir207), (184, ir184), (167, ir167), (242, ir242), (241, ir241), (249, ir249), (250, ir250), (239, ir239)]
def prims : Nat → Option (List AV → AHeap → Option (AV × AHeap)) := fun g => if g = 254 then some repPrim else none
def tab : Tab := tabOf irs prims
theorem k240 : compileFn Try.prog (gOf gl) Try.f11 = some ir240 := by kernel_rfl
theorem k185 : compileFn Try.prog (gOf gl) Try.f39 = some ir185 := by kernel_rfl
theorem k188 : compileFn Try.prog (gOf gl) Try.f47 = some ir188 := by kernel_rfl
theorem k214 : compileFn Try.prog (gOf gl) Try.f30 = some ir214 := by kernel_rfl
theorem k215 : compileFn Try.prog (gOf gl) Try.f49 = some ir215 := by kernel_rfl
theorem k209 : compileFn Try.prog (gOf gl) Try.f29 = some ir209 := by kernel_rfl
theorem k189 : compileFn Try.prog (gOf gl) Try.f48 = some ir189 := by kernel_rfl
theorem k170 : compileFn Try.prog (gOf gl) Try.f28 = some ir170 := by kernel_rfl
theorem k196 : compileFn Try.prog (gOf gl) Try.f52 = some ir196 := by kernel_rfl
theorem k195 : compileFn Try.prog (gOf gl) Try.f51 = some ir195 := by kernel_rfl
theorem k197 : compileFn Try.prog (gOf gl) Try.f53 = some ir197 := by kernel_rfl
theorem k198 : compileFn Try.prog (gOf gl) Try.f41 = some ir198 := by kernel_rfl
theorem k210 : compileFn Try.prog (gOf gl) Try.f72 = some ir210 := by kernel_rfl
theorem k199 : compileFn Try.prog (gOf gl) Try.f54 = some ir199 := by kernel_rfl
theorem k201 : compileFn Try.prog (gOf gl) Try.f56 = some ir201 := by kernel_rfl
theorem k200 : compileFn Try.prog (gOf gl) Try.f55 = some ir200 := by kernel_rfl
theorem k202 : compileFn Try.prog (gOf gl) Try.f57 = some ir202 := by kernel_rfl
theorem k203 : compileFn Try.prog (gOf gl) Try.f58 = some ir203 := by kernel_rfl
theorem k211 : compileFn Try.prog (gOf gl) Try.f73 = some ir211 := by kernel_rfl
theorem k204 : compileFn Try.prog (gOf gl) Try.f59 = some ir204 := by kernel_rfl
theorem k205 : compileFn Try.prog (gOf gl) Try.f60 = some ir205 := by kernel_rfl
theorem k206 : compileFn Try.prog (gOf gl) Try.f61 = some ir206 := by kernel_rfl
theorem k207 : compileFn Try.prog (gOf gl) Try.f62 = some ir207 := by kernel_rfl
theorem k184 : compileFn Try.prog (gOf gl) Try.f38 = some ir184 := by kernel_rfl
theorem k167 : compileFn Try.prog (gOf gl) Try.f16 = some ir167 := by kernel_rfl
theorem k242 : compileFn Try.prog (gOf gl) Try.f13 = some ir242 := by kernel_rfl
theorem k241 : compileFn Try.prog (gOf gl) Try.f12 = some ir241 := by kernel_rfl
theorem k249 : compileFn Try.prog (gOf gl) Try.f26 = some ir249 := by kernel_rfl
theorem k250 : compileFn Try.prog (gOf gl) Try.f27 = some ir250 := by kernel_rfl
theorem k239 : compileFn Try.prog (gOf gl) Try.f10 = some ir239 := by kernel_rfl
theorem linked : Linked Try.prog (gOf gl) irs 0 gl := (.no rfl (.no rfl (.no rfl (.no rfl (.no rfl (.no rfl (.no rfl (.no rfl (.no rfl (.no rfl (.yes (ir := ir239) rfl Try.func10 k239 (.yes (ir := ir240) rfl Try.func11 k240 (.yes (ir := ir241) rfl Try.func12 k241 (.yes (ir := ir242) rfl Try.func13 k242 (.no rfl (.no rfl (.yes (ir := ir167) rfl Try.func16 k167 (.no rfl (.no rfl (.no rfl (.no rfl (.no rfl (.no rfl (.no rfl (.no rfl (.no rfl (.yes (ir := ir249) rfl Try.func26 k249 (.yes (ir := ir250) rfl Try.func27 k250 (.yes (ir := ir170) rfl Try.func28 k170 (.yes (ir := ir209) rfl Try.func29 k209 (.yes (ir := ir214) rfl Try.func30 k214 (.no rfl (.no rfl (.no rfl (.no rfl (.no rfl (.no rfl (.no rfl (.yes (ir := ir184) rfl Try.func38 k184 (.yes (ir := ir185) rfl Try.func39 k185 (.no rfl (.yes (ir := ir198) rfl Try.func41 k198 (.no rfl (.no rfl (.no rfl (.no rfl (.no rfl (.yes (ir := ir188) rfl Try.func47 k188 (.yes (ir := ir189) rfl Try.func48 k189 (.yes (ir := ir215) rfl Try.func49 k215 (.no rfl (.yes (ir := ir195) rfl Try.func51 k195 (.yes (ir := ir196) rfl Try.func52 k196 (.yes (ir := ir197) rfl Try.func53 k197 (.yes (ir := ir199) rfl Try.func54 k199 (.yes (ir := ir200) rfl Try.func55 k200 (.yes (ir := ir201) rfl Try.func56 k201 (.yes (ir := ir202) rfl Try.func57 k202 (.yes (ir := ir203) rfl Try.func58 k203 (.yes (ir := ir204) rfl Try.func59 k204 (.yes (ir := ir205) rfl Try.func60 k205 (.yes (ir := ir206) rfl Try.func61 k206 (.yes (ir := ir207) rfl Try.func62 k207 (.no rfl (.no rfl (.no rfl (.no rfl (.no rfl (.no rfl (.no rfl (.no rfl (.no rfl (.yes (ir := ir210) rfl Try.func72 k210 (.yes (ir := ir211) rfl Try.func73 k211 (.no rfl (.no rfl (.no rfl (.no rfl (.no rfl (.no rfl (.no rfl (.no rfl (.no rfl (.no rfl (.no rfl (.no rfl (.no rfl (.no rfl (.no rfl (.no rfl (.no rfl (.no rfl (.no rfl (.no rfl (.no rfl (.no rfl (.no rfl (.no rfl trivial))))))))))))))))))))))))))))))))))))))))))))))))))))))))))))))))))))))))))))))))))))))))))))))))))
theorem primsOk {B : Nat} {w0 : World} : ∀ f q, prims (gOf gl f) = some q → ∀ args H v H', q args H = some (v, H') → ∀ E w us, HRel (gOf gl) B w0 E H w → VRs (gOf gl) H.next E args us → Back Try.prog (gOf gl) B w0 E H w (callFunc f us.toArray) v H' := by
  intro f q h
  unfold prims at h
  split at h
  · rename_i e
    simp only [Option.some.injEq] at h
    subst h
    have := gOf_at (gl := gl) (i := 46) (by decide) (by decide +kernel) e
    subst this
    exact fun args H v H' hq => rep_back lays105 extra105 rfl args H v H' hq B w0
  cases h
theorem link {B : Nat} {w0 : World} : Link Try.prog (gOf gl) B w0 tab.fn tab.prim := link_of (by kernel_rfl) (by decide) linked (by exact primsOk)
theorem d240 : D240 tab := ⟨rfl, rfl⟩
theorem d185 : D185 tab := ⟨rfl, rfl⟩
theorem d188 : D188 tab := ⟨rfl, rfl, d185⟩
theorem d214 : D214 tab := ⟨rfl, rfl⟩
theorem d215 : D215 tab := ⟨rfl, rfl⟩
theorem d209 : D209 tab := ⟨rfl, rfl, d214, d215⟩
theorem d189 : D189 tab := ⟨rfl, rfl, d209⟩
theorem d170 : D170 tab := ⟨rfl, rfl, d188, d189⟩
theorem d196 : D196 tab := ⟨rfl, rfl, d185⟩
theorem d195 : D195 tab := ⟨rfl, rfl, d196⟩
theorem d197 : D197 tab := ⟨rfl, rfl, d196⟩
theorem d198 : D198 tab := ⟨rfl, rfl⟩
theorem d210 : D210 tab := ⟨rfl, rfl, d196⟩
theorem d199 : D199 tab := ⟨rfl, rfl, d210⟩
theorem d201 : D201 tab := ⟨rfl, rfl⟩
theorem d200 : D200 tab := ⟨rfl, rfl, d201⟩
theorem d202 : D202 tab := ⟨rfl, rfl, d201⟩
theorem d203 : D203 tab := ⟨rfl, rfl, d198⟩
theorem d211 : D211 tab := ⟨rfl, rfl, d196⟩
theorem d204 : D204 tab := ⟨rfl, rfl, d211⟩
theorem d205 : D205 tab := ⟨rfl, rfl⟩
theorem d206 : D206 tab := ⟨rfl, rfl⟩
theorem d207 : D207 tab := ⟨rfl, rfl⟩
theorem d184 : D184 tab := ⟨rfl, rfl, d195, d197, d198, d199, d200, d202, d203, d204, d205, d206, d207⟩
theorem d167 : D167 tab := ⟨rfl, rfl, d184, d185⟩
theorem d242 : D242 tab := ⟨rfl, rfl, d209, d214⟩
theorem d241 : D241 tab := ⟨rfl, rfl, d170, d167, d242⟩
theorem d249 : D249 tab := ⟨rfl, rfl⟩
theorem d250 : D250 tab := ⟨rfl, rfl, rfl⟩
theorem d239 : D239 tab := ⟨rfl, rfl, d240, d241, d249, d250⟩
theorem own : ownKnob Try.prog.godebug = none := by kernel_rfl
theorem lifted (os : Os) (started : os.Started) (H : Type) (enc : TypeId × Value → H) :
    ReturnsInHanded {} Try.checked os 10 .any (Rows.numRepeatsSpec.pre6 enc Try.prog Try.f10 Rows.numRepeatsRow.domain false) (Rows.numRepeatsSpec.post enc Try.prog Try.f10 false true false false) := by
  refine returnsInHanded_of_change (C := Try.checked) own started (by kernel_rfl) Try.func10
    (ChangeSpec.witness6 (enc := enc) (C := Try.checked) false ⟨#[], #[.string ⟨#[]⟩, .int .i64 0], []⟩ 8 (by kernel_rfl) (by kernel_rfl) (by kernel_rfl) (by kernel_rfl)) ?_
  intro W base args ds gs before hval hW hcnd _
  exact row_contract (G := gOf gl) (n := 12) (ss := [.str, .int .i64]) (tb := 4) link (f := 10) (ir := ir239) rfl rfl (by kernel_rfl) (by kernel_rfl) (by kernel_rfl) rfl (by kernel_rfl) Try.underlying4 hval hW
    (fun hl => by
      have hp : Try.f10.params.toList.length = 2 := by kernel_rfl
      rw [hp] at hl
      refine match ds, hl with
      | [d1, d2], _ => ?_
      rfl) (fun K vs hw hg => law239 d239 hw hg)
theorem over : Rows.numRepeatsRow.holds Try.pinned (OpenSpec.ofChange Rows.numRepeatsSpec) :=
  OpenClaim.holds_of_wide 10 Try.f10 rfl rfl rfl rfl rfl rfl rfl ⟨rfl, rfl, rfl, rfl, rfl⟩ rfl rfl rfl rfl rfl (by kernel_rfl) Try.func10 (by kernel_rfl)
    (of_decide_eq_true (by kernel_rfl)) (by unfold Func.isWrapper; first | (rw [if_pos (by decide +kernel)]; kernel_rfl) | (rw [if_neg (by decide +kernel)]; exact ⟨rfl, rfl⟩))
    (fun os started H enc _ => lifted os started H enc)
end NumRepeats_
/-- THE STATEMENT. -/
theorem numRepeats_proved : Rows.NumRepeatsSaid := NumRepeats_.over
#print axioms numRepeats_proved
end Go.Proofs.Ytepgjaknkjkpaaa
