/- The row of NumRanges: the functions that it reaches are those of the small machine, and what the small machine gives goes into the statement. Printed by mkrow.py. -/
import Derived.Test.YtepgjaknkjkpaaaDoorRows
import Derived.Test.YtepgjaknkjkpaaaDoorCards
import Derived.Test.YtepgjaknkjkpaaaDoorTie
import Derived.Deep.DeepHandedRow
import Derived.Lib.LaidTab
import Derived.SevenTiedAt
import Derived.Test.YtepgjaknkjkpaaaDoorAmRange
import Derived.Test.YtepgjaknkjkpaaaDoorAmPrim
import Derived.Test.YtepgjaknkjkpaaaDoorAmPrimI
set_option linter.unusedVariables false
set_option maxRecDepth 100000
namespace Go.Proofs.YtepgjaknkjkpaaaDoor
namespace NumRanges_
open Go.Am Go.RowKit Go.ChangeShapes Go.Shelf

def lays171_ren : Ren := ⟨fun x => match x with | 171 => 29 | 243 => 43 | 246 => 49 | 283 => 67 | 284 => 68 | 285 => 69 | 286 => 70 | 129 => 74 | 317 => 73 | 318 => 75 | 319 => 76 | 320 => 77 | 337 => 78 | 338 => 79 | n => n,
  fun x => match x with | 3 => 3 | 9 => 9 | 2 => 2 | 4 => 4 | 171 => 70 | 0 => 0 | 53 => 71 | 37 => 66 | 5 => 5 | 173 => 74 | 212 => 78 | 51 => 79 | 20 => 20 | 213 => 80 | 46 => 81 | 232 => 84 | 233 => 85 | n => n,
  fun x => match x with | 17 => 0 | 18 => 1 | 19 => 2 | n => n⟩
theorem lays171 : LaysM.n171 Tryd.prog lays171_ren where
  mixed := by kernel_rfl
  f129 := by kernel_rfl
  f171 := by kernel_rfl
  f243 := by kernel_rfl
  f246 := by kernel_rfl
  f283 := by kernel_rfl
  f284 := by kernel_rfl
  f285 := by kernel_rfl
  f286 := by kernel_rfl
  f317 := by kernel_rfl
  f318 := by kernel_rfl
  f319 := by kernel_rfl
  f320 := by kernel_rfl
  f337 := by kernel_rfl
  f338 := by kernel_rfl
  t0 := Tryd.underlying0
  a0 := Tryd.isAgg0
  z0 := Tryd.sizeOf0
  v0 := Tryd.zeroValue0
  t2 := Tryd.underlying2
  a2 := Tryd.isAgg2
  z2 := Tryd.sizeOf2
  v2 := Tryd.zeroValue2
  t3 := Tryd.underlying3
  a3 := Tryd.isAgg3
  z3 := Tryd.sizeOf3
  v3 := Tryd.zeroValue3
  t4 := Tryd.underlying4
  a4 := Tryd.isAgg4
  z4 := Tryd.sizeOf4
  v4 := Tryd.zeroValue4
  t5 := Tryd.underlying5
  a5 := Tryd.isAgg5
  z5 := Tryd.sizeOf5
  v5 := Tryd.zeroValue5
  t9 := Tryd.underlying9
  a9 := Tryd.isAgg9
  z9 := Tryd.sizeOf9
  v9 := Tryd.zeroValue9
  t20 := Tryd.underlying20
  a20 := Tryd.isAgg20
  z20 := Tryd.sizeOf20
  v20 := Tryd.zeroValue20
  t37 := Tryd.underlying66
  a37 := Tryd.isAgg66
  z37 := Tryd.sizeOf66
  v37 := Tryd.zeroValue66
  t46 := Tryd.underlying81
  a46 := Tryd.isAgg81
  z46 := Tryd.sizeOf81
  v46 := Tryd.zeroValue81
  t51 := Tryd.underlying79
  a51 := Tryd.isAgg79
  z51 := Tryd.sizeOf79
  v51 := Tryd.zeroValue79
  t53 := Tryd.underlying71
  a53 := Tryd.isAgg71
  z53 := Tryd.sizeOf71
  v53 := Tryd.zeroValue71
  t171 := Tryd.underlying70
  a171 := Tryd.isAgg70
  z171 := Tryd.sizeOf70
  v171 := Tryd.zeroValue70
  t173 := Tryd.underlying74
  a173 := Tryd.isAgg74
  z173 := Tryd.sizeOf74
  v173 := Tryd.zeroValue74
  t212 := Tryd.underlying78
  a212 := Tryd.isAgg78
  z212 := Tryd.sizeOf78
  v212 := Tryd.zeroValue78
  t213 := Tryd.underlying80
  a213 := Tryd.isAgg80
  z213 := Tryd.sizeOf80
  t232 := Tryd.underlying84
  a232 := Tryd.isAgg84
  z232 := Tryd.sizeOf84
  v232 := Tryd.zeroValue84
  t233 := Tryd.underlying85
  a233 := Tryd.isAgg85
  z233 := Tryd.sizeOf85
  v233 := Tryd.zeroValue85
  g17 := by kernel_rfl
  g18 := by kernel_rfl
  g19 := by kernel_rfl
  i0 := by kernel_rfl
  i2 := by kernel_rfl
  i3 := by kernel_rfl
  i4 := by kernel_rfl
  i5 := by kernel_rfl
  i9 := by kernel_rfl
  i20 := by kernel_rfl
  i37 := by kernel_rfl
  i46 := by kernel_rfl
  i51 := by kernel_rfl
  i53 := by kernel_rfl
  i173 := by kernel_rfl
  m17 := by kernel_rfl
  m18 := by kernel_rfl
  m19 := by kernel_rfl
  i171 := by kernel_rfl
  i212 := by kernel_rfl
  i232 := by kernel_rfl
  i233 := by kernel_rfl

def gl : List Nat := [100,101,102,269,270,271,272,240,241,186,170,273,274,188,169,275,276,277,278,279,280,248,281,282,122,167,242,165,189,283,185,187,284,285,286,287,288,289,252,253,184,209,214,290,208,291,292,293,215,294,256,195,196,197,198,199,200,201,202,203,204,205,206,207,212,213,295,296,297,298,299,210,211,300,301,302,303,304,305,306,216,217,218,219,220,221,222,223,224,225,226,227,228,229,230,231,307,308,309,310,311,312]
def irs : List (Nat × AFunc) := [(240, ir240), (185, ir185), (188, ir188), (214, ir214), (215, ir215), (209, ir209), (189, ir189), (170, ir170), (196, ir196), (195, ir195), (197, ir197), (198, ir198), (210, ir210), (199, ir199), (201, ir201), (200, ir200), (202, ir202), (203, ir203), (211, ir211), (204, ir204), (205, ir205), (206, ir206), (207, ir207), (184, ir184), (167, ir167), (242, ir242), (241, ir241), (295, ir295), (213, ir213), (291, ir291), (212, ir212), (208, ir208), (187, ir187), (284, ir284), (285, ir285), (281, ir281), (292, ir292), (293, ir293), (286, ir286), (287, ir287), (278, ir278), (282, ir282), (122, ir122), (272, ir272)]
def prims : Nat → Option (List AV → AHeap → Option (AV × AHeap)) := fun g => if g = 283 then some itoaPrim else none
def tab : Tab := tabOf irs prims
theorem k240 : compileFn Tryd.prog (gOf gl) Tryd.f7 = some ir240 := by kernel_rfl
theorem k185 : compileFn Tryd.prog (gOf gl) Tryd.f30 = some ir185 := by kernel_rfl
theorem k188 : compileFn Tryd.prog (gOf gl) Tryd.f13 = some ir188 := by kernel_rfl
theorem k214 : compileFn Tryd.prog (gOf gl) Tryd.f42 = some ir214 := by kernel_rfl
theorem k215 : compileFn Tryd.prog (gOf gl) Tryd.f48 = some ir215 := by kernel_rfl
theorem k209 : compileFn Tryd.prog (gOf gl) Tryd.f41 = some ir209 := by kernel_rfl
theorem k189 : compileFn Tryd.prog (gOf gl) Tryd.f28 = some ir189 := by kernel_rfl
theorem k170 : compileFn Tryd.prog (gOf gl) Tryd.f10 = some ir170 := by kernel_rfl
theorem k196 : compileFn Tryd.prog (gOf gl) Tryd.f52 = some ir196 := by kernel_rfl
theorem k195 : compileFn Tryd.prog (gOf gl) Tryd.f51 = some ir195 := by kernel_rfl
theorem k197 : compileFn Tryd.prog (gOf gl) Tryd.f53 = some ir197 := by kernel_rfl
theorem k198 : compileFn Tryd.prog (gOf gl) Tryd.f54 = some ir198 := by kernel_rfl
theorem k210 : compileFn Tryd.prog (gOf gl) Tryd.f71 = some ir210 := by kernel_rfl
theorem k199 : compileFn Tryd.prog (gOf gl) Tryd.f55 = some ir199 := by kernel_rfl
theorem k201 : compileFn Tryd.prog (gOf gl) Tryd.f57 = some ir201 := by kernel_rfl
theorem k200 : compileFn Tryd.prog (gOf gl) Tryd.f56 = some ir200 := by kernel_rfl
theorem k202 : compileFn Tryd.prog (gOf gl) Tryd.f58 = some ir202 := by kernel_rfl
theorem k203 : compileFn Tryd.prog (gOf gl) Tryd.f59 = some ir203 := by kernel_rfl
theorem k211 : compileFn Tryd.prog (gOf gl) Tryd.f72 = some ir211 := by kernel_rfl
theorem k204 : compileFn Tryd.prog (gOf gl) Tryd.f60 = some ir204 := by kernel_rfl
theorem k205 : compileFn Tryd.prog (gOf gl) Tryd.f61 = some ir205 := by kernel_rfl
theorem k206 : compileFn Tryd.prog (gOf gl) Tryd.f62 = some ir206 := by kernel_rfl
theorem k207 : compileFn Tryd.prog (gOf gl) Tryd.f63 = some ir207 := by kernel_rfl
theorem k184 : compileFn Tryd.prog (gOf gl) Tryd.f40 = some ir184 := by kernel_rfl
theorem k167 : compileFn Tryd.prog (gOf gl) Tryd.f25 = some ir167 := by kernel_rfl
theorem k242 : compileFn Tryd.prog (gOf gl) Tryd.f26 = some ir242 := by kernel_rfl
theorem k241 : compileFn Tryd.prog (gOf gl) Tryd.f8 = some ir241 := by kernel_rfl
theorem k295 : compileFn Tryd.prog (gOf gl) Tryd.f66 = some ir295 := by kernel_rfl
theorem k213 : compileFn Tryd.prog (gOf gl) Tryd.f65 = some ir213 := by kernel_rfl
theorem k291 : compileFn Tryd.prog (gOf gl) Tryd.f45 = some ir291 := by kernel_rfl
theorem k212 : compileFn Tryd.prog (gOf gl) Tryd.f64 = some ir212 := by kernel_rfl
theorem k208 : compileFn Tryd.prog (gOf gl) Tryd.f44 = some ir208 := by kernel_rfl
theorem k187 : compileFn Tryd.prog (gOf gl) Tryd.f31 = some ir187 := by kernel_rfl
theorem k284 : compileFn Tryd.prog (gOf gl) Tryd.f32 = some ir284 := by kernel_rfl
theorem k285 : compileFn Tryd.prog (gOf gl) Tryd.f33 = some ir285 := by kernel_rfl
theorem k281 : compileFn Tryd.prog (gOf gl) Tryd.f22 = some ir281 := by kernel_rfl
theorem k292 : compileFn Tryd.prog (gOf gl) Tryd.f46 = some ir292 := by kernel_rfl
theorem k293 : compileFn Tryd.prog (gOf gl) Tryd.f47 = some ir293 := by kernel_rfl
theorem k286 : compileFn Tryd.prog (gOf gl) Tryd.f34 = some ir286 := by kernel_rfl
theorem k287 : compileFn Tryd.prog (gOf gl) Tryd.f35 = some ir287 := by kernel_rfl
theorem k278 : compileFn Tryd.prog (gOf gl) Tryd.f18 = some ir278 := by kernel_rfl
theorem k282 : compileFn Tryd.prog (gOf gl) Tryd.f23 = some ir282 := by kernel_rfl
theorem k122 : compileFn Tryd.prog (gOf gl) Tryd.f24 = some ir122 := by kernel_rfl
theorem k272 : compileFn Tryd.prog (gOf gl) Tryd.f6 = some ir272 := by kernel_rfl
theorem linked : Linked Tryd.prog (gOf gl) irs 0 gl := (.no rfl (.no rfl (.no rfl (.no rfl (.no rfl (.no rfl (.yes (ir := ir272) rfl Tryd.func6 k272 (.yes (ir := ir240) rfl Tryd.func7 k240 (.yes (ir := ir241) rfl Tryd.func8 k241 (.no rfl (.yes (ir := ir170) rfl Tryd.func10 k170 (.no rfl (.no rfl (.yes (ir := ir188) rfl Tryd.func13 k188 (.no rfl (.no rfl (.no rfl (.no rfl (.yes (ir := ir278) rfl Tryd.func18 k278 (.no rfl (.no rfl (.no rfl (.yes (ir := ir281) rfl Tryd.func22 k281 (.yes (ir := ir282) rfl Tryd.func23 k282 (.yes (ir := ir122) rfl Tryd.func24 k122 (.yes (ir := ir167) rfl Tryd.func25 k167 (.yes (ir := ir242) rfl Tryd.func26 k242 (.no rfl (.yes (ir := ir189) rfl Tryd.func28 k189 (.no rfl (.yes (ir := ir185) rfl Tryd.func30 k185 (.yes (ir := ir187) rfl Tryd.func31 k187 (.yes (ir := ir284) rfl Tryd.func32 k284 (.yes (ir := ir285) rfl Tryd.func33 k285 (.yes (ir := ir286) rfl Tryd.func34 k286 (.yes (ir := ir287) rfl Tryd.func35 k287 (.no rfl (.no rfl (.no rfl (.no rfl (.yes (ir := ir184) rfl Tryd.func40 k184 (.yes (ir := ir209) rfl Tryd.func41 k209 (.yes (ir := ir214) rfl Tryd.func42 k214 (.no rfl (.yes (ir := ir208) rfl Tryd.func44 k208 (.yes (ir := ir291) rfl Tryd.func45 k291 (.yes (ir := ir292) rfl Tryd.func46 k292 (.yes (ir := ir293) rfl Tryd.func47 k293 (.yes (ir := ir215) rfl Tryd.func48 k215 (.no rfl (.no rfl (.yes (ir := ir195) rfl Tryd.func51 k195 (.yes (ir := ir196) rfl Tryd.func52 k196 (.yes (ir := ir197) rfl Tryd.func53 k197 (.yes (ir := ir198) rfl Tryd.func54 k198 (.yes (ir := ir199) rfl Tryd.func55 k199 (.yes (ir := ir200) rfl Tryd.func56 k200 (.yes (ir := ir201) rfl Tryd.func57 k201 (.yes (ir := ir202) rfl Tryd.func58 k202 (.yes (ir := ir203) rfl Tryd.func59 k203 (.yes (ir := ir204) rfl Tryd.func60 k204 (.yes (ir := ir205) rfl Tryd.func61 k205 (.yes (ir := ir206) rfl Tryd.func62 k206 (.yes (ir := ir207) rfl Tryd.func63 k207 (.yes (ir := ir212) rfl Tryd.func64 k212 (.yes (ir := ir213) rfl Tryd.func65 k213 (.yes (ir := ir295) rfl Tryd.func66 k295 (.no rfl (.no rfl (.no rfl (.no rfl (.yes (ir := ir210) rfl Tryd.func71 k210 (.yes (ir := ir211) rfl Tryd.func72 k211 (.no rfl (.no rfl (.no rfl (.no rfl (.no rfl (.no rfl (.no rfl (.no rfl (.no rfl (.no rfl (.no rfl (.no rfl (.no rfl (.no rfl (.no rfl (.no rfl (.no rfl (.no rfl (.no rfl (.no rfl (.no rfl (.no rfl (.no rfl (.no rfl (.no rfl (.no rfl (.no rfl (.no rfl (.no rfl trivial))))))))))))))))))))))))))))))))))))))))))))))))))))))))))))))))))))))))))))))))))))))))))))))))))))))
theorem primsOk {B : Nat} {w0 : World} (hT : Lib.TabBelow Tryd.prog B w0 "internal/strconv.uint64pow10" .u64 Lib.pow10Tab) : ∀ f q, prims (gOf gl f) = some q → ∀ args H v H', q args H = some (v, H') → ∀ E w us, HRel (gOf gl) B w0 E H w → VRs (gOf gl) H.next E args us → Back Tryd.prog (gOf gl) B w0 E H w (callFunc f us.toArray) v H' := by
  intro f q h
  unfold prims at h
  split at h
  · rename_i e
    simp only [Option.some.injEq] at h
    subst h
    have := gOf_at (gl := gl) (i := 29) (by decide) (by decide +kernel) e
    subst this
    exact itoa_back lays171 rfl hT
  cases h
theorem link {B : Nat} {w0 : World} (hT : Lib.TabBelow Tryd.prog B w0 "internal/strconv.uint64pow10" .u64 Lib.pow10Tab) : Link Tryd.prog (gOf gl) B w0 tab.fn tab.prim := link_of (by kernel_rfl) (by decide) linked (by exact primsOk hT)
theorem d240 : D240 tab := ⟨rfl, rfl⟩
theorem d185 : D185 tab := ⟨rfl, rfl⟩
theorem d188 : D188 tab := ⟨rfl, rfl, d185⟩
theorem d214 : D214 tab := ⟨rfl, rfl⟩
theorem d215 : D215 tab := ⟨rfl, rfl⟩
theorem d209 : D209 tab := ⟨rfl, rfl, d214, d215⟩
theorem d189 : D189 tab := ⟨rfl, rfl, d209⟩
theorem d170 : D170 tab := ⟨rfl, rfl, d188, d189⟩
theorem d196 : D196 tab := ⟨rfl, rfl, d185⟩
theorem d195 : D195 tab := ⟨rfl, rfl, d196⟩
theorem d197 : D197 tab := ⟨rfl, rfl, d196⟩
theorem d198 : D198 tab := ⟨rfl, rfl⟩
theorem d210 : D210 tab := ⟨rfl, rfl, d196⟩
theorem d199 : D199 tab := ⟨rfl, rfl, d210⟩
theorem d201 : D201 tab := ⟨rfl, rfl⟩
theorem d200 : D200 tab := ⟨rfl, rfl, d201⟩
theorem d202 : D202 tab := ⟨rfl, rfl, d201⟩
theorem d203 : D203 tab := ⟨rfl, rfl, d198⟩
theorem d211 : D211 tab := ⟨rfl, rfl, d196⟩
theorem d204 : D204 tab := ⟨rfl, rfl, d211⟩
theorem d205 : D205 tab := ⟨rfl, rfl⟩
theorem d206 : D206 tab := ⟨rfl, rfl⟩
theorem d207 : D207 tab := ⟨rfl, rfl⟩
theorem d184 : D184 tab := ⟨rfl, rfl, d195, d197, d198, d199, d200, d202, d203, d204, d205, d206, d207⟩
theorem d167 : D167 tab := ⟨rfl, rfl, d184, d185⟩
theorem d242 : D242 tab := ⟨rfl, rfl, d209, d214⟩
theorem d241 : D241 tab := ⟨rfl, rfl, d170, d167, d242⟩
theorem d295 : D295 tab := ⟨rfl, rfl⟩
theorem d213 : D213 tab := ⟨rfl, rfl⟩
theorem d291 : D291 tab := ⟨rfl, rfl, d295, d213⟩
theorem d212 : D212 tab := ⟨rfl, rfl⟩
theorem d208 : D208 tab := ⟨rfl, rfl, d212, d213⟩
theorem d187 : D187 tab := ⟨rfl, rfl, d208⟩
theorem d284 : D284 tab := ⟨rfl, rfl⟩
theorem d285 : D285 tab := ⟨rfl, rfl, d291, d187, d284⟩
theorem d281 : D281 tab := ⟨rfl, rfl, d285⟩
theorem d292 : D292 tab := ⟨rfl, rfl⟩
theorem d293 : D293 tab := ⟨rfl, rfl⟩
theorem d286 : D286 tab := ⟨rfl, rfl, d292, d293, d215⟩
theorem d287 : D287 tab := ⟨rfl, rfl, d292, d293⟩
theorem d278 : D278 tab := ⟨rfl, rfl, d286, d189, rfl, d287⟩
theorem d282 : D282 tab := ⟨rfl, rfl, d278⟩
theorem d122 : D122 tab := ⟨rfl, rfl⟩
theorem d272 : D272 tab := ⟨rfl, rfl, d240, d241, d281, d282, d122⟩
theorem own : ownKnob Tryd.prog.godebug = none := by kernel_rfl
theorem gTab : Tryd.prog.globalNamed "internal/strconv.uint64pow10" = some 0 := by kernel_rfl
theorem gTabType : (Tryd.prog.globals[0]?).map (·.type) = some 78 := by kernel_rfl
theorem cellsT : Tryd.prog.cellsOf 78 = 20 := by kernel_rfl
theorem cellsE : Tryd.prog.cellsOf 71 = 1 := by kernel_rfl
theorem table {W : World} (h : laidMetH Tryd.prog Rows.numRangesRow.laid W) : Lib.TabIs Tryd.prog W "internal/strconv.uint64pow10" .u64 Lib.pow10Tab :=
  Lib.tabIs_of_head (rest := []) gTab gTabType Tryd.underlying78 Tryd.underlying71 cellsE cellsT (laidMet_tail (laidMet_tail (h)))
theorem contract (H : Type) (enc : TypeId × Value → H) (W : World) (base : Nat) (args : Array Value) (ds gs : List (DataW H)) (before : List MemPlace)
    (hval : ∀ (j : Nat) t v, Tryd.f6.params[j]? = some t → args[j]? = some v → Value.okWide Tryd.prog W .any base t v)
    (hW : DataW.Whole enc Tryd.prog Tryd.f6.params.toList Rows.numRangesSpec.vars false W args.toList ds gs before) (hL : laidMetH Tryd.prog Rows.numRangesRow.laid W) :
    Calls Tryd.prog 6 args W fun e W' => ∃ v, e = .returned v ∧ Rows.numRangesSpec.post enc Tryd.prog Tryd.f6 false true false false W args v W' :=
  row_contract (G := gOf gl) (n := 12) (ss := [.str, .str]) (tb := 4) (link (Lib.tabBelow_of_tabIs (table hL))) (f := 6) (ir := ir272) rfl rfl (by kernel_rfl) (by kernel_rfl) (by kernel_rfl) rfl (by kernel_rfl) Tryd.underlying4 hval hW
    (fun hl => by
      have hp : Tryd.f6.params.toList.length = 2 := by kernel_rfl
      rw [hp] at hl
      refine match ds, hl with
      | [d1, d2], _ => ?_
      rfl) (fun K vs hw hg => law272 d272 hw hg)
noncomputable def laidWorld (os : Os) : World :=
  { World.holding Tryd.prog os ⟨#[], #[], []⟩ with heap := (Array.modify (Array.modify (Array.modify (World.holding Tryd.prog os ⟨#[], #[], []⟩).heap 1 (fun (o : Obj) => match o with | .cells _ t frozen => .cells #[.int .u8 0, .int .u8 1, .int .u8 28, .int .u8 2, .int .u8 29, .int .u8 14, .int .u8 24, .int .u8 3, .int .u8 30, .int .u8 22, .int .u8 20, .int .u8 15, .int .u8 25, .int .u8 17, .int .u8 4, .int .u8 8, .int .u8 31, .int .u8 27, .int .u8 13, .int .u8 23, .int .u8 21, .int .u8 19, .int .u8 16, .int .u8 7, .int .u8 26, .int .u8 12, .int .u8 18, .int .u8 6, .int .u8 11, .int .u8 5, .int .u8 10, .int .u8 9] t frozen | o => o)) 2 (fun (o : Obj) => match o with | .cells _ t frozen => .cells #[.int .u8 0, .int .u8 1, .int .u8 56, .int .u8 2, .int .u8 57, .int .u8 49, .int .u8 28, .int .u8 3, .int .u8 61, .int .u8 58, .int .u8 42, .int .u8 50, .int .u8 38, .int .u8 29, .int .u8 17, .int .u8 4, .int .u8 62, .int .u8 47, .int .u8 59, .int .u8 36, .int .u8 45, .int .u8 43, .int .u8 51, .int .u8 22, .int .u8 53, .int .u8 39, .int .u8 33, .int .u8 30, .int .u8 24, .int .u8 18, .int .u8 12, .int .u8 5, .int .u8 63, .int .u8 55, .int .u8 48, .int .u8 27, .int .u8 60, .int .u8 41, .int .u8 37, .int .u8 16, .int .u8 46, .int .u8 35, .int .u8 44, .int .u8 21, .int .u8 52, .int .u8 32, .int .u8 23, .int .u8 11, .int .u8 54, .int .u8 26, .int .u8 40, .int .u8 15, .int .u8 34, .int .u8 20, .int .u8 31, .int .u8 10, .int .u8 25, .int .u8 14, .int .u8 19, .int .u8 9, .int .u8 13, .int .u8 8, .int .u8 7, .int .u8 6] t frozen | o => o)) 0 (fun (o : Obj) => match o with | .cells _ t frozen => .cells #[.int .u64 1, .int .u64 10, .int .u64 100, .int .u64 1000, .int .u64 10000, .int .u64 100000, .int .u64 1000000, .int .u64 10000000, .int .u64 100000000, .int .u64 1000000000, .int .u64 10000000000, .int .u64 100000000000, .int .u64 1000000000000, .int .u64 10000000000000, .int .u64 100000000000000, .int .u64 1000000000000000, .int .u64 10000000000000000, .int .u64 100000000000000000, .int .u64 1000000000000000000, .int .u64 10000000000000000000] t frozen | o => o)) }
theorem laid_met (os : Os) : laidMet Tryd.prog Rows.numRangesRow.laid ((laidWorld os).forCall (fun _ _ => 0) ⟨#[], #[.string ⟨#[]⟩, .string ⟨#[]⟩], []⟩).memory :=
  laidMet_of_run' 8 (by kernel_rfl) (by kernel_rfl)
theorem reads (os : Os) {H : Type} (enc : TypeId × Value → H) : ∃ places, DataW.whole enc Tryd.prog ((laidWorld os).forCall (fun _ _ => 0) ⟨#[], #[.string ⟨#[]⟩, .string ⟨#[]⟩], []⟩).memory Tryd.f6.params.toList Rows.numRangesSpec.vars false #[.string ⟨#[]⟩, .string ⟨#[]⟩].toList 8 = some ([.lit (.string []), .lit (.string [])], [], places) :=
  ⟨[], by kernel_rfl⟩
theorem lifted (os : Os) (started : os.Started) (H : Type) (enc : TypeId × Value → H) (F : Stop.Interp) :
    ReturnsInHanded {} Tryd.checked os 6 .any ((OpenSpec.ofChange Rows.numRangesSpec).preRow enc Tryd.prog Tryd.f6 Rows.numRangesRow.domain false Rows.numRangesRow.laid) (((OpenSpec.ofChange Rows.numRangesSpec).at F).post enc Tryd.prog Tryd.f6 false true false false) := by
  obtain ⟨places, hx⟩ := reads os enc
  refine returnsInHanded_of_row (C := Tryd.checked) (s := OpenSpec.ofChange Rows.numRangesSpec) own started (by kernel_rfl) Tryd.func6
    (witness_row_at (enc := enc) (C := Tryd.checked) false (laidWorld os) #[.string ⟨#[]⟩, .string ⟨#[]⟩] rfl (by kernel_rfl) (by kernel_rfl) (by kernel_rfl)
      (OpenSpec.preRow_of_cond 8 hx (by kernel_rfl) (fun k hk => by cases hk) (by kernel_rfl) (laid_met os))) ?_
  intro W base args ds gs before hval hW _ _ _ hL _ _
  exact contract H enc W base args ds gs before hval hW hL
theorem over : Rows.numRangesRow.holds Tryd.pinned (OpenSpec.ofChange Rows.numRangesSpec) :=
  OpenClaim.holds_of_cond 6 Tryd.f6 rfl rfl rfl rfl rfl rfl rfl ⟨rfl, rfl, rfl, rfl, rfl⟩ rfl rfl rfl rfl rfl (by kernel_rfl) Tryd.func6 (by kernel_rfl)
    (of_decide_eq_true (by kernel_rfl)) (by unfold Func.isWrapper; first | (rw [if_pos (by decide +kernel)]; kernel_rfl) | (rw [if_neg (by decide +kernel)]; exact ⟨rfl, rfl⟩))
    (fun os started H enc _ F => by rw [OpenClaim.pre_eq_preRow]; exact lifted os started H enc F)
theorem plain (f : FuncId) (fn : Func) (hf : Tryd.pinned.checked.prog.funcNamed "motley/motleylaw01.NumRanges" = some f) (hfn : Tryd.pinned.checked.prog.funcs[f]? = some fn) :
    false = Tryd.pinned.checked.prog.looks [] ∧ ∀ (j : Nat) t, fn.params[j]? = some t → Tryd.pinned.checked.prog.wantsStandIn t = false := by
  obtain rfl : f = 6 := Option.some.inj ((show Tryd.prog.funcNamed "motley/motleylaw01.NumRanges" = some 6 by kernel_rfl).symm.trans hf) |>.symm
  obtain rfl : fn = Tryd.f6 := (Option.some.inj (Tryd.func6.symm.trans hfn)).symm
  refine ⟨by kernel_rfl, fun j t ht => ?_⟩
  have h : (Tryd.f6.params.toList.all fun t => !Tryd.prog.wantsStandIn t) = true := by kernel_rfl
  have := List.all_eq_true.1 h t (by simpa using Array.mem_of_getElem? ht)
  show Tryd.prog.wantsStandIn t = false
  simpa using this
end NumRanges_
/-- THE TIED CARD. -/
theorem numRanges_proved : Rows.NumRangesCardSaid :=
  Claim7.holds_tied_plain_at .later [] _ _ _ _ NumRanges_.over (fun _ h => by cases h) (by kernel_rfl) (fun _ h => by cases h) numRanges_row_tie rfl ⟨rfl, rfl⟩ (by kernel_rfl) rfl NumRanges_.plain (by kernel_rfl)
#print axioms numRanges_proved
end Go.Proofs.YtepgjaknkjkpaaaDoor
