/- The row of NumSpells: the functions that it reaches are those of the small machine, and what the small machine gives goes into the statement. Printed by mkrow.py. -/
import Derived.Test.YtepgjaknkjkpaaaDoorRows
import Derived.Test.YtepgjaknkjkpaaaDoorCards
import Derived.Test.YtepgjaknkjkpaaaDoorTie
import Derived.Deep.DeepHandedRow
import Derived.Lib.LaidTab
import Derived.SevenTiedAt
import Derived.Test.YtepgjaknkjkpaaaDoorAmSpells
import Derived.Test.YtepgjaknkjkpaaaDoorAmPrim
import Derived.Test.YtepgjaknkjkpaaaDoorAmPrimF
set_option linter.unusedVariables false
set_option maxRecDepth 100000
namespace Go.Proofs.YtepgjaknkjkpaaaDoor
namespace NumSpells_
open Go.Am Go.RowKit Go.ChangeShapes Go.Shelf

def lays173_ren : Ren := ⟨fun x => match x with | 173 => 37 | 246 => 49 | 283 => 67 | 284 => 68 | 285 => 69 | 286 => 70 | 129 => 74 | 317 => 73 | 318 => 75 | 319 => 76 | 320 => 77 | 337 => 78 | 338 => 79 | n => n,
  fun x => match x with | 2 => 2 | 3 => 3 | 9 => 9 | 4 => 4 | 171 => 70 | 0 => 0 | 53 => 71 | 37 => 66 | 5 => 5 | 173 => 74 | 212 => 78 | 51 => 79 | 20 => 20 | 213 => 80 | 46 => 81 | 232 => 84 | 233 => 85 | n => n,
  fun x => match x with | 17 => 0 | 18 => 1 | 19 => 2 | n => n⟩
theorem lays173 : LaysM.n173 Tryd.prog lays173_ren where
  mixed := by kernel_rfl
  f129 := by kernel_rfl
  f173 := by kernel_rfl
  f246 := by kernel_rfl
  f283 := by kernel_rfl
  f284 := by kernel_rfl
  f285 := by kernel_rfl
  f286 := by kernel_rfl
  f317 := by kernel_rfl
  f318 := by kernel_rfl
  f319 := by kernel_rfl
  f320 := by kernel_rfl
  f337 := by kernel_rfl
  f338 := by kernel_rfl
  t0 := Tryd.underlying0
  a0 := Tryd.isAgg0
  z0 := Tryd.sizeOf0
  v0 := Tryd.zeroValue0
  t2 := Tryd.underlying2
  a2 := Tryd.isAgg2
  z2 := Tryd.sizeOf2
  v2 := Tryd.zeroValue2
  t3 := Tryd.underlying3
  a3 := Tryd.isAgg3
  z3 := Tryd.sizeOf3
  v3 := Tryd.zeroValue3
  t4 := Tryd.underlying4
  a4 := Tryd.isAgg4
  z4 := Tryd.sizeOf4
  v4 := Tryd.zeroValue4
  t5 := Tryd.underlying5
  a5 := Tryd.isAgg5
  z5 := Tryd.sizeOf5
  v5 := Tryd.zeroValue5
  t9 := Tryd.underlying9
  a9 := Tryd.isAgg9
  z9 := Tryd.sizeOf9
  v9 := Tryd.zeroValue9
  t20 := Tryd.underlying20
  a20 := Tryd.isAgg20
  z20 := Tryd.sizeOf20
  v20 := Tryd.zeroValue20
  t37 := Tryd.underlying66
  a37 := Tryd.isAgg66
  z37 := Tryd.sizeOf66
  v37 := Tryd.zeroValue66
  t46 := Tryd.underlying81
  a46 := Tryd.isAgg81
  z46 := Tryd.sizeOf81
  v46 := Tryd.zeroValue81
  t51 := Tryd.underlying79
  a51 := Tryd.isAgg79
  z51 := Tryd.sizeOf79
  v51 := Tryd.zeroValue79
  t53 := Tryd.underlying71
  a53 := Tryd.isAgg71
  z53 := Tryd.sizeOf71
  v53 := Tryd.zeroValue71
  t171 := Tryd.underlying70
  a171 := Tryd.isAgg70
  z171 := Tryd.sizeOf70
  v171 := Tryd.zeroValue70
  t173 := Tryd.underlying74
  a173 := Tryd.isAgg74
  z173 := Tryd.sizeOf74
  v173 := Tryd.zeroValue74
  t212 := Tryd.underlying78
  a212 := Tryd.isAgg78
  z212 := Tryd.sizeOf78
  v212 := Tryd.zeroValue78
  t213 := Tryd.underlying80
  a213 := Tryd.isAgg80
  z213 := Tryd.sizeOf80
  t232 := Tryd.underlying84
  a232 := Tryd.isAgg84
  z232 := Tryd.sizeOf84
  v232 := Tryd.zeroValue84
  t233 := Tryd.underlying85
  a233 := Tryd.isAgg85
  z233 := Tryd.sizeOf85
  v233 := Tryd.zeroValue85
  g17 := by kernel_rfl
  g18 := by kernel_rfl
  g19 := by kernel_rfl
  i0 := by kernel_rfl
  i2 := by kernel_rfl
  i3 := by kernel_rfl
  i4 := by kernel_rfl
  i5 := by kernel_rfl
  i9 := by kernel_rfl
  i20 := by kernel_rfl
  i37 := by kernel_rfl
  i46 := by kernel_rfl
  i51 := by kernel_rfl
  i53 := by kernel_rfl
  i173 := by kernel_rfl
  m17 := by kernel_rfl
  m18 := by kernel_rfl
  m19 := by kernel_rfl
  i171 := by kernel_rfl
  i212 := by kernel_rfl
  i232 := by kernel_rfl
  i233 := by kernel_rfl

def lays27_ren : Ren := ⟨fun x => match x with | 27 => 77 | 28 => 78 | 29 => 79 | n => n,
  fun x => match x with | 25 => 81 | 3 => 3 | 27 => 79 | 22 => 71 | 4 => 4 | 53 => 84 | 0 => 0 | 5 => 5 | 54 => 85 | n => n,
  fun x => match x with | 0 => 1 | 1 => 2 | n => n⟩
theorem lays27 : Lays7.n27 Tryd.prog lays27_ren where
  mixed := by kernel_rfl
  f27 := by kernel_rfl
  f28 := by kernel_rfl
  f29 := by kernel_rfl
  t0 := Tryd.underlying0
  a0 := Tryd.isAgg0
  z0 := Tryd.sizeOf0
  v0 := Tryd.zeroValue0
  i0 := by kernel_rfl
  t3 := Tryd.underlying3
  a3 := Tryd.isAgg3
  z3 := Tryd.sizeOf3
  v3 := Tryd.zeroValue3
  i3 := by kernel_rfl
  t4 := Tryd.underlying4
  a4 := Tryd.isAgg4
  z4 := Tryd.sizeOf4
  v4 := Tryd.zeroValue4
  i4 := by kernel_rfl
  t5 := Tryd.underlying5
  a5 := Tryd.isAgg5
  z5 := Tryd.sizeOf5
  v5 := Tryd.zeroValue5
  i5 := by kernel_rfl
  t22 := Tryd.underlying71
  a22 := Tryd.isAgg71
  z22 := Tryd.sizeOf71
  v22 := Tryd.zeroValue71
  i22 := by kernel_rfl
  t25 := Tryd.underlying81
  a25 := Tryd.isAgg81
  z25 := Tryd.sizeOf81
  v25 := Tryd.zeroValue81
  i25 := by kernel_rfl
  t27 := Tryd.underlying79
  a27 := Tryd.isAgg79
  z27 := Tryd.sizeOf79
  v27 := Tryd.zeroValue79
  i27 := by kernel_rfl
  t53 := Tryd.underlying84
  a53 := Tryd.isAgg84
  z53 := Tryd.sizeOf84
  v53 := Tryd.zeroValue84
  t54 := Tryd.underlying85
  a54 := Tryd.isAgg85
  z54 := Tryd.sizeOf85
  g0 := by kernel_rfl
  g1 := by kernel_rfl
  i53 := by kernel_rfl

def gl : List Nat := [100,101,102,269,270,271,272,240,241,186,170,273,274,188,169,275,276,277,278,279,280,248,281,282,122,167,242,165,189,283,185,187,284,285,286,287,288,289,252,253,184,209,214,290,208,291,292,293,215,294,256,195,196,197,198,199,200,201,202,203,204,205,206,207,212,213,295,296,297,298,299,210,211,300,301,302,303,304,305,306,216,217,218,219,220,221,222,223,224,225,226,227,228,229,230,231,307,308,309,310,311,312]
def irs : List (Nat × AFunc) := [(165, ir165), (288, ir288), (279, ir279), (185, ir185), (296, ir296), (303, ir303), (299, ir299), (294, ir294), (289, ir289), (280, ir280), (188, ir188), (214, ir214), (215, ir215), (209, ir209), (189, ir189), (170, ir170), (196, ir196), (195, ir195), (197, ir197), (198, ir198), (210, ir210), (199, ir199), (201, ir201), (200, ir200), (202, ir202), (203, ir203), (211, ir211), (204, ir204), (205, ir205), (206, ir206), (207, ir207), (184, ir184), (167, ir167), (242, ir242), (241, ir241), (256, ir256), (252, ir252), (253, ir253), (248, ir248), (271, ir271)]
def prims : Nat → Option (List AV → AHeap → Option (AV × AHeap)) := fun g => if g = 289 then some fmtPrim else if g = 304 then some tzPrim else none
def tab : Tab := tabOf irs prims
theorem k165 : compileFn Tryd.prog (gOf gl) Tryd.f27 = some ir165 := by kernel_rfl
theorem k288 : compileFn Tryd.prog (gOf gl) Tryd.f36 = some ir288 := by kernel_rfl
theorem k279 : compileFn Tryd.prog (gOf gl) Tryd.f19 = some ir279 := by kernel_rfl
theorem k185 : compileFn Tryd.prog (gOf gl) Tryd.f30 = some ir185 := by kernel_rfl
theorem k296 : compileFn Tryd.prog (gOf gl) Tryd.f67 = some ir296 := by kernel_rfl
theorem k303 : compileFn Tryd.prog (gOf gl) Tryd.f76 = some ir303 := by kernel_rfl
theorem k299 : compileFn Tryd.prog (gOf gl) Tryd.f70 = some ir299 := by kernel_rfl
theorem k294 : compileFn Tryd.prog (gOf gl) Tryd.f49 = some ir294 := by kernel_rfl
theorem k289 : compileFn Tryd.prog (gOf gl) Tryd.f37 = some ir289 := by kernel_rfl
theorem k280 : compileFn Tryd.prog (gOf gl) Tryd.f20 = some ir280 := by kernel_rfl
theorem k188 : compileFn Tryd.prog (gOf gl) Tryd.f13 = some ir188 := by kernel_rfl
theorem k214 : compileFn Tryd.prog (gOf gl) Tryd.f42 = some ir214 := by kernel_rfl
theorem k215 : compileFn Tryd.prog (gOf gl) Tryd.f48 = some ir215 := by kernel_rfl
theorem k209 : compileFn Tryd.prog (gOf gl) Tryd.f41 = some ir209 := by kernel_rfl
theorem k189 : compileFn Tryd.prog (gOf gl) Tryd.f28 = some ir189 := by kernel_rfl
theorem k170 : compileFn Tryd.prog (gOf gl) Tryd.f10 = some ir170 := by kernel_rfl
theorem k196 : compileFn Tryd.prog (gOf gl) Tryd.f52 = some ir196 := by kernel_rfl
theorem k195 : compileFn Tryd.prog (gOf gl) Tryd.f51 = some ir195 := by kernel_rfl
theorem k197 : compileFn Tryd.prog (gOf gl) Tryd.f53 = some ir197 := by kernel_rfl
theorem k198 : compileFn Tryd.prog (gOf gl) Tryd.f54 = some ir198 := by kernel_rfl
theorem k210 : compileFn Tryd.prog (gOf gl) Tryd.f71 = some ir210 := by kernel_rfl
theorem k199 : compileFn Tryd.prog (gOf gl) Tryd.f55 = some ir199 := by kernel_rfl
theorem k201 : compileFn Tryd.prog (gOf gl) Tryd.f57 = some ir201 := by kernel_rfl
theorem k200 : compileFn Tryd.prog (gOf gl) Tryd.f56 = some ir200 := by kernel_rfl
theorem k202 : compileFn Tryd.prog (gOf gl) Tryd.f58 = some ir202 := by kernel_rfl
theorem k203 : compileFn Tryd.prog (gOf gl) Tryd.f59 = some ir203 := by kernel_rfl
theorem k211 : compileFn Tryd.prog (gOf gl) Tryd.f72 = some ir211 := by kernel_rfl
theorem k204 : compileFn Tryd.prog (gOf gl) Tryd.f60 = some ir204 := by kernel_rfl
theorem k205 : compileFn Tryd.prog (gOf gl) Tryd.f61 = some ir205 := by kernel_rfl
theorem k206 : compileFn Tryd.prog (gOf gl) Tryd.f62 = some ir206 := by kernel_rfl
theorem k207 : compileFn Tryd.prog (gOf gl) Tryd.f63 = some ir207 := by kernel_rfl
theorem k184 : compileFn Tryd.prog (gOf gl) Tryd.f40 = some ir184 := by kernel_rfl
theorem k167 : compileFn Tryd.prog (gOf gl) Tryd.f25 = some ir167 := by kernel_rfl
theorem k242 : compileFn Tryd.prog (gOf gl) Tryd.f26 = some ir242 := by kernel_rfl
theorem k241 : compileFn Tryd.prog (gOf gl) Tryd.f8 = some ir241 := by kernel_rfl
theorem k256 : compileFn Tryd.prog (gOf gl) Tryd.f50 = some ir256 := by kernel_rfl
theorem k252 : compileFn Tryd.prog (gOf gl) Tryd.f38 = some ir252 := by kernel_rfl
theorem k253 : compileFn Tryd.prog (gOf gl) Tryd.f39 = some ir253 := by kernel_rfl
theorem k248 : compileFn Tryd.prog (gOf gl) Tryd.f21 = some ir248 := by kernel_rfl
theorem k271 : compileFn Tryd.prog (gOf gl) Tryd.f5 = some ir271 := by kernel_rfl
theorem linked : Linked Tryd.prog (gOf gl) irs 0 gl := (.no rfl (.no rfl (.no rfl (.no rfl (.no rfl (.yes (ir := ir271) rfl Tryd.func5 k271 (.no rfl (.no rfl (.yes (ir := ir241) rfl Tryd.func8 k241 (.no rfl (.yes (ir := ir170) rfl Tryd.func10 k170 (.no rfl (.no rfl (.yes (ir := ir188) rfl Tryd.func13 k188 (.no rfl (.no rfl (.no rfl (.no rfl (.no rfl (.yes (ir := ir279) rfl Tryd.func19 k279 (.yes (ir := ir280) rfl Tryd.func20 k280 (.yes (ir := ir248) rfl Tryd.func21 k248 (.no rfl (.no rfl (.no rfl (.yes (ir := ir167) rfl Tryd.func25 k167 (.yes (ir := ir242) rfl Tryd.func26 k242 (.yes (ir := ir165) rfl Tryd.func27 k165 (.yes (ir := ir189) rfl Tryd.func28 k189 (.no rfl (.yes (ir := ir185) rfl Tryd.func30 k185 (.no rfl (.no rfl (.no rfl (.no rfl (.no rfl (.yes (ir := ir288) rfl Tryd.func36 k288 (.yes (ir := ir289) rfl Tryd.func37 k289 (.yes (ir := ir252) rfl Tryd.func38 k252 (.yes (ir := ir253) rfl Tryd.func39 k253 (.yes (ir := ir184) rfl Tryd.func40 k184 (.yes (ir := ir209) rfl Tryd.func41 k209 (.yes (ir := ir214) rfl Tryd.func42 k214 (.no rfl (.no rfl (.no rfl (.no rfl (.no rfl (.yes (ir := ir215) rfl Tryd.func48 k215 (.yes (ir := ir294) rfl Tryd.func49 k294 (.yes (ir := ir256) rfl Tryd.func50 k256 (.yes (ir := ir195) rfl Tryd.func51 k195 (.yes (ir := ir196) rfl Tryd.func52 k196 (.yes (ir := ir197) rfl Tryd.func53 k197 (.yes (ir := ir198) rfl Tryd.func54 k198 (.yes (ir := ir199) rfl Tryd.func55 k199 (.yes (ir := ir200) rfl Tryd.func56 k200 (.yes (ir := ir201) rfl Tryd.func57 k201 (.yes (ir := ir202) rfl Tryd.func58 k202 (.yes (ir := ir203) rfl Tryd.func59 k203 (.yes (ir := ir204) rfl Tryd.func60 k204 (.yes (ir := ir205) rfl Tryd.func61 k205 (.yes (ir := ir206) rfl Tryd.func62 k206 (.yes (ir := ir207) rfl Tryd.func63 k207 (.no rfl (.no rfl (.no rfl (.yes (ir := ir296) rfl Tryd.func67 k296 (.no rfl (.no rfl (.yes (ir := ir299) rfl Tryd.func70 k299 (.yes (ir := ir210) rfl Tryd.func71 k210 (.yes (ir := ir211) rfl Tryd.func72 k211 (.no rfl (.no rfl (.no rfl (.yes (ir := ir303) rfl Tryd.func76 k303 (.no rfl (.no rfl (.no rfl (.no rfl (.no rfl (.no rfl (.no rfl (.no rfl (.no rfl (.no rfl (.no rfl (.no rfl (.no rfl (.no rfl (.no rfl (.no rfl (.no rfl (.no rfl (.no rfl (.no rfl (.no rfl (.no rfl (.no rfl (.no rfl (.no rfl trivial))))))))))))))))))))))))))))))))))))))))))))))))))))))))))))))))))))))))))))))))))))))))))))))))))))))
theorem primsOk {B : Prot} {w0 : World} (hT : ∀ w, Keep B w0 w → Lib.TabIs Tryd.prog w "internal/strconv.uint64pow10" .u64 Lib.pow10Tab) (hT2 : ∀ w, Keep B w0 w → Go.Proofs.TabAt 2 Lib.deBruijn64tab w) : ∀ f q, prims (gOf gl f) = some q → ∀ args H v H', q args H = some (v, H') → ∀ S, Sub B S → ∀ E w us, HRel (gOf gl) S w0 E H w → VRs (gOf gl) H.next E args us → Back Tryd.prog (gOf gl) S w0 E H w (callFunc f us.toArray) v H' := by
  intro f q h
  unfold prims at h
  split at h
  · rename_i e
    simp only [Option.some.injEq] at h
    subst h
    have := gOf_at (gl := gl) (i := 37) (by decide) (by decide +kernel) e
    subst this
    exact fmt_back lays173 rfl hT
  split at h
  · rename_i e
    simp only [Option.some.injEq] at h
    subst h
    have := gOf_at (gl := gl) (i := 77) (by decide) (by decide +kernel) e
    subst this
    exact tz_back lays27 rfl hT2
  cases h
theorem link {B : Prot} {w0 : World} (hT : ∀ w, Keep B w0 w → Lib.TabIs Tryd.prog w "internal/strconv.uint64pow10" .u64 Lib.pow10Tab) (hT2 : ∀ w, Keep B w0 w → Go.Proofs.TabAt 2 Lib.deBruijn64tab w) : Link Tryd.prog (gOf gl) B w0 tab.fn tab.prim := link_of (by kernel_rfl) (by decide) linked (by exact primsOk hT hT2)
theorem d165 : D165 tab := ⟨rfl, rfl⟩
theorem d288 : D288 tab := ⟨rfl, rfl⟩
theorem d279 : D279 tab := ⟨rfl, rfl, d165, d288⟩
theorem d185 : D185 tab := ⟨rfl, rfl⟩
theorem d296 : D296 tab := ⟨rfl, rfl⟩
theorem d303 : D303 tab := ⟨rfl, rfl⟩
theorem d299 : D299 tab := ⟨rfl, rfl, d303, rfl⟩
theorem d294 : D294 tab := ⟨rfl, rfl, d296, d299⟩
theorem d289 : D289 tab := ⟨rfl, rfl, d294⟩
theorem d280 : D280 tab := ⟨rfl, rfl, d185, d289⟩
theorem d188 : D188 tab := ⟨rfl, rfl, d185⟩
theorem d214 : D214 tab := ⟨rfl, rfl⟩
theorem d215 : D215 tab := ⟨rfl, rfl⟩
theorem d209 : D209 tab := ⟨rfl, rfl, d214, d215⟩
theorem d189 : D189 tab := ⟨rfl, rfl, d209⟩
theorem d170 : D170 tab := ⟨rfl, rfl, d188, d189⟩
theorem d196 : D196 tab := ⟨rfl, rfl, d185⟩
theorem d195 : D195 tab := ⟨rfl, rfl, d196⟩
theorem d197 : D197 tab := ⟨rfl, rfl, d196⟩
theorem d198 : D198 tab := ⟨rfl, rfl⟩
theorem d210 : D210 tab := ⟨rfl, rfl, d196⟩
theorem d199 : D199 tab := ⟨rfl, rfl, d210⟩
theorem d201 : D201 tab := ⟨rfl, rfl⟩
theorem d200 : D200 tab := ⟨rfl, rfl, d201⟩
theorem d202 : D202 tab := ⟨rfl, rfl, d201⟩
theorem d203 : D203 tab := ⟨rfl, rfl, d198⟩
theorem d211 : D211 tab := ⟨rfl, rfl, d196⟩
theorem d204 : D204 tab := ⟨rfl, rfl, d211⟩
theorem d205 : D205 tab := ⟨rfl, rfl⟩
theorem d206 : D206 tab := ⟨rfl, rfl⟩
theorem d207 : D207 tab := ⟨rfl, rfl⟩
theorem d184 : D184 tab := ⟨rfl, rfl, d195, d197, d198, d199, d200, d202, d203, d204, d205, d206, d207⟩
theorem d167 : D167 tab := ⟨rfl, rfl, d184, d185⟩
theorem d242 : D242 tab := ⟨rfl, rfl, d209, d214⟩
theorem d241 : D241 tab := ⟨rfl, rfl, d170, d167, d242⟩
theorem d256 : D256 tab := ⟨rfl, rfl⟩
theorem d252 : D252 tab := ⟨rfl, rfl, d256⟩
theorem d253 : D253 tab := ⟨rfl, rfl, d215⟩
theorem d248 : D248 tab := ⟨rfl, rfl, d252, d253⟩
theorem d271 : D271 tab := ⟨rfl, rfl, d279, d280, d241, d248⟩
theorem own : ownKnob Tryd.prog.godebug = none := by kernel_rfl
theorem gTab2 : Tryd.prog.globalNamed "math/bits.deBruijn64tab" = some 2 := by kernel_rfl
theorem gTab2Type : (Tryd.prog.globals[2]?).map (·.type) = some 85 := by kernel_rfl
theorem cells2T : Tryd.prog.cellsOf 85 = 64 := by kernel_rfl
theorem cells2E : Tryd.prog.cellsOf 5 = 1 := by kernel_rfl
def tabZ : List Int := Lib.deBruijn64tab.map Int.ofNat
theorem tabZ_at : ∀ j, j < 64 → tabZ.getD j 0 = ((Lib.deBruijn64tab.getD j 0 : Nat) : Int) := by decide +kernel
theorem table2 {W : World} (h : laidMetH Tryd.prog Rows.numSpellsRow.laid W) : ∀ w, Keep (prot W) W w → Go.Proofs.TabAt 2 Lib.deBruijn64tab w := fun w k j hj => by
  have h1 : Lib.TabIs Tryd.prog W "math/bits.deBruijn64tab" .u8 tabZ := Lib.tabIs_of_head (rest := [("internal/strconv.uint64pow10", Lib.tabData .u64 Lib.pow10Tab)]) gTab2 gTab2Type Tryd.underlying85 Tryd.underlying5 cells2E cells2T (laidMet_tail (h))
  have h2 := (Lib.tabBelow_of_tabIs h1 w k.to_below).cell gTab2 j hj
  rw [tabZ_at j hj] at h2
  exact h2

theorem gTab : Tryd.prog.globalNamed "internal/strconv.uint64pow10" = some 0 := by kernel_rfl
theorem gTabType : (Tryd.prog.globals[0]?).map (·.type) = some 78 := by kernel_rfl
theorem cellsT : Tryd.prog.cellsOf 78 = 20 := by kernel_rfl
theorem cellsE : Tryd.prog.cellsOf 71 = 1 := by kernel_rfl
theorem table {W : World} (h : laidMetH Tryd.prog Rows.numSpellsRow.laid W) : Lib.TabIs Tryd.prog W "internal/strconv.uint64pow10" .u64 Lib.pow10Tab :=
  Lib.tabIs_of_head (rest := []) gTab gTabType Tryd.underlying78 Tryd.underlying71 cellsE cellsT (laidMet_tail (laidMet_tail (h)))
theorem contract (H : Type) (enc : TypeId × Value → H) (W : World) (base : Nat) (args : Array Value) (ds gs : List (DataW H)) (before : List MemPlace)
    (hval : ∀ (j : Nat) t v, Tryd.f5.params[j]? = some t → args[j]? = some v → Value.okWide Tryd.prog W .any base t v)
    (hW : DataW.Whole enc Tryd.prog Tryd.f5.params.toList Rows.numSpellsSpec.vars false W args.toList ds gs before) (hL : laidMetH Tryd.prog Rows.numSpellsRow.laid W) :
    Calls Tryd.prog 5 args W fun e W' => ∃ v, e = .returned v ∧ Rows.numSpellsSpec.post enc Tryd.prog Tryd.f5 false true false false W args v W' :=
  row_contract (G := gOf gl) (n := 12) (ss := [.int .i64, .int .i64]) (tb := 4) (link (fun w k => Lib.tabBelow_of_tabIs (table hL) w k.to_below) (table2 hL)) (f := 5) (ir := ir271) rfl rfl (by kernel_rfl) (by kernel_rfl) (by kernel_rfl) rfl (by kernel_rfl) Tryd.underlying4 hval hW
    (fun hl => by
      have hp : Tryd.f5.params.toList.length = 2 := by kernel_rfl
      rw [hp] at hl
      refine match ds, hl with
      | [d1, d2], _ => ?_
      rfl) (fun K vs hw hg => law271 d271 hw hg)
noncomputable def laidWorld (os : Os) : World :=
  { World.holding Tryd.prog os ⟨#[], #[], []⟩ with heap := (Array.modify (Array.modify (Array.modify (World.holding Tryd.prog os ⟨#[], #[], []⟩).heap 1 (fun (o : Obj) => match o with | .cells _ t frozen => .cells #[.int .u8 0, .int .u8 1, .int .u8 28, .int .u8 2, .int .u8 29, .int .u8 14, .int .u8 24, .int .u8 3, .int .u8 30, .int .u8 22, .int .u8 20, .int .u8 15, .int .u8 25, .int .u8 17, .int .u8 4, .int .u8 8, .int .u8 31, .int .u8 27, .int .u8 13, .int .u8 23, .int .u8 21, .int .u8 19, .int .u8 16, .int .u8 7, .int .u8 26, .int .u8 12, .int .u8 18, .int .u8 6, .int .u8 11, .int .u8 5, .int .u8 10, .int .u8 9] t frozen | o => o)) 2 (fun (o : Obj) => match o with | .cells _ t frozen => .cells #[.int .u8 0, .int .u8 1, .int .u8 56, .int .u8 2, .int .u8 57, .int .u8 49, .int .u8 28, .int .u8 3, .int .u8 61, .int .u8 58, .int .u8 42, .int .u8 50, .int .u8 38, .int .u8 29, .int .u8 17, .int .u8 4, .int .u8 62, .int .u8 47, .int .u8 59, .int .u8 36, .int .u8 45, .int .u8 43, .int .u8 51, .int .u8 22, .int .u8 53, .int .u8 39, .int .u8 33, .int .u8 30, .int .u8 24, .int .u8 18, .int .u8 12, .int .u8 5, .int .u8 63, .int .u8 55, .int .u8 48, .int .u8 27, .int .u8 60, .int .u8 41, .int .u8 37, .int .u8 16, .int .u8 46, .int .u8 35, .int .u8 44, .int .u8 21, .int .u8 52, .int .u8 32, .int .u8 23, .int .u8 11, .int .u8 54, .int .u8 26, .int .u8 40, .int .u8 15, .int .u8 34, .int .u8 20, .int .u8 31, .int .u8 10, .int .u8 25, .int .u8 14, .int .u8 19, .int .u8 9, .int .u8 13, .int .u8 8, .int .u8 7, .int .u8 6] t frozen | o => o)) 0 (fun (o : Obj) => match o with | .cells _ t frozen => .cells #[.int .u64 1, .int .u64 10, .int .u64 100, .int .u64 1000, .int .u64 10000, .int .u64 100000, .int .u64 1000000, .int .u64 10000000, .int .u64 100000000, .int .u64 1000000000, .int .u64 10000000000, .int .u64 100000000000, .int .u64 1000000000000, .int .u64 10000000000000, .int .u64 100000000000000, .int .u64 1000000000000000, .int .u64 10000000000000000, .int .u64 100000000000000000, .int .u64 1000000000000000000, .int .u64 10000000000000000000] t frozen | o => o)) }
theorem laid_met (os : Os) : laidMet Tryd.prog Rows.numSpellsRow.laid ((laidWorld os).forCall (fun _ _ => 0) ⟨#[], #[.int .i64 0, .int .i64 0], []⟩).memory :=
  laidMet_of_run' 8 (by kernel_rfl) (by kernel_rfl)
theorem reads (os : Os) {H : Type} (enc : TypeId × Value → H) : ∃ places, DataW.whole enc Tryd.prog ((laidWorld os).forCall (fun _ _ => 0) ⟨#[], #[.int .i64 0, .int .i64 0], []⟩).memory Tryd.f5.params.toList Rows.numSpellsSpec.vars false #[.int .i64 0, .int .i64 0].toList 8 = some ([.lit (.int .i64 0), .lit (.int .i64 0)], [], places) :=
  ⟨[], by kernel_rfl⟩
theorem lifted (os : Os) (started : os.Started) (H : Type) (enc : TypeId × Value → H) (F : Stop.Interp) :
    ReturnsInHanded {} Tryd.checked os 5 .any ((OpenSpec.ofChange Rows.numSpellsSpec).preRow enc Tryd.prog Tryd.f5 Rows.numSpellsRow.domain false Rows.numSpellsRow.laid) (((OpenSpec.ofChange Rows.numSpellsSpec).at F).post enc Tryd.prog Tryd.f5 false true false false) := by
  obtain ⟨places, hx⟩ := reads os enc
  refine returnsInHanded_of_row (C := Tryd.checked) (s := OpenSpec.ofChange Rows.numSpellsSpec) own started (by kernel_rfl) Tryd.func5
    (witness_row_at (enc := enc) (C := Tryd.checked) false (laidWorld os) #[.int .i64 0, .int .i64 0] rfl (by kernel_rfl) (by kernel_rfl) (by kernel_rfl)
      (OpenSpec.preRow_of_cond 8 hx (by kernel_rfl) (fun k hk => by cases hk) (by kernel_rfl) (laid_met os))) ?_
  intro W base args ds gs before hval hW _ _ _ hL _ _
  exact contract H enc W base args ds gs before hval hW hL
theorem over : Rows.numSpellsRow.holds Tryd.pinned (OpenSpec.ofChange Rows.numSpellsSpec) :=
  OpenClaim.holds_of_cond 5 Tryd.f5 rfl rfl rfl rfl rfl rfl rfl ⟨rfl, rfl, rfl, rfl, rfl⟩ rfl rfl rfl rfl rfl (by kernel_rfl) Tryd.func5 (by kernel_rfl)
    (of_decide_eq_true (by kernel_rfl)) (by unfold Func.isWrapper; first | (rw [if_pos (by decide +kernel)]; kernel_rfl) | (rw [if_neg (by decide +kernel)]; exact ⟨rfl, rfl⟩))
    (fun os started H enc _ F => by rw [OpenClaim.pre_eq_preRow]; exact lifted os started H enc F)
theorem plain (f : FuncId) (fn : Func) (hf : Tryd.pinned.checked.prog.funcNamed "motley/motleylaw01.NumSpells" = some f) (hfn : Tryd.pinned.checked.prog.funcs[f]? = some fn) :
    false = Tryd.pinned.checked.prog.looks [] ∧ ∀ (j : Nat) t, fn.params[j]? = some t → Tryd.pinned.checked.prog.wantsStandIn t = false := by
  obtain rfl : f = 5 := Option.some.inj ((show Tryd.prog.funcNamed "motley/motleylaw01.NumSpells" = some 5 by kernel_rfl).symm.trans hf) |>.symm
  obtain rfl : fn = Tryd.f5 := (Option.some.inj (Tryd.func5.symm.trans hfn)).symm
  refine ⟨by kernel_rfl, fun j t ht => ?_⟩
  have h : (Tryd.f5.params.toList.all fun t => !Tryd.prog.wantsStandIn t) = true := by kernel_rfl
  have := List.all_eq_true.1 h t (by simpa using Array.mem_of_getElem? ht)
  show Tryd.prog.wantsStandIn t = false
  simpa using this
end NumSpells_
/-- THE TIED CARD. -/
theorem numSpells_proved : Rows.NumSpellsCardSaid :=
  Claim7.holds_tied_plain_at .later [] _ _ _ _ NumSpells_.over (fun _ h => by cases h) (by kernel_rfl) (fun _ h => by cases h) numSpells_row_tie rfl ⟨rfl, rfl⟩ (by kernel_rfl) rfl NumSpells_.plain (by kernel_rfl)
#print axioms numSpells_proved
end Go.Proofs.YtepgjaknkjkpaaaDoor
