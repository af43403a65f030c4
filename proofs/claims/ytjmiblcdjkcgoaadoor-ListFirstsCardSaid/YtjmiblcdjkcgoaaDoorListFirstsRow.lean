/- The row of ListFirsts: the functions that it reaches are those of the small machine, and what the small machine gives goes into the statement. Printed by mkrow.py. -/
import Derived.Test.YtjmiblcdjkcgoaaDoorRows
import Derived.Test.YtjmiblcdjkcgoaaDoorCards
import Derived.Test.YtjmiblcdjkcgoaaDoorTie
import Derived.Deep.DeepHandedRow
import Derived.Lib.LaidTab
import Derived.SevenTiedAt
import Derived.Test.YtjmiblcdjkcgoaaDoorAmFirst
import Derived.Test.YtjmiblcdjkcgoaaDoorAmPrim
import Derived.Test.YtjmiblcdjkcgoaaDoorAmPrimI
set_option linter.unusedVariables false
set_option maxRecDepth 100000
namespace Go.Proofs.YtjmiblcdjkcgoaaDoor
namespace ListFirsts_
open Go.Am Go.RowKit Go.ChangeShapes Go.Shelf

def lays171_ren : Ren := ⟨fun x => match x with | 171 => 24 | 243 => 26 | 246 => 27 | 283 => 28 | 284 => 29 | 285 => 30 | 286 => 31 | 129 => 33 | 317 => 32 | 318 => 34 | 319 => 35 | 320 => 36 | 337 => 37 | 338 => 38 | n => n,
  fun x => match x with | 3 => 3 | 9 => 9 | 2 => 2 | 4 => 4 | 171 => 51 | 0 => 0 | 53 => 52 | 37 => 55 | 5 => 5 | 173 => 56 | 212 => 60 | 51 => 61 | 20 => 20 | 213 => 62 | 46 => 63 | 232 => 66 | 233 => 67 | n => n,
  fun x => match x with | 17 => 0 | 18 => 1 | 19 => 2 | n => n⟩
theorem lays171 : LaysM.n171 Tryd.prog lays171_ren where
  mixed := by kernel_rfl
  f129 := by kernel_rfl
  f171 := by kernel_rfl
  f243 := by kernel_rfl
  f246 := by kernel_rfl
  f283 := by kernel_rfl
  f284 := by kernel_rfl
  f285 := by kernel_rfl
  f286 := by kernel_rfl
  f317 := by kernel_rfl
  f318 := by kernel_rfl
  f319 := by kernel_rfl
  f320 := by kernel_rfl
  f337 := by kernel_rfl
  f338 := by kernel_rfl
  t0 := Tryd.underlying0
  a0 := Tryd.isAgg0
  z0 := Tryd.sizeOf0
  v0 := Tryd.zeroValue0
  t2 := Tryd.underlying2
  a2 := Tryd.isAgg2
  z2 := Tryd.sizeOf2
  v2 := Tryd.zeroValue2
  t3 := Tryd.underlying3
  a3 := Tryd.isAgg3
  z3 := Tryd.sizeOf3
  v3 := Tryd.zeroValue3
  t4 := Tryd.underlying4
  a4 := Tryd.isAgg4
  z4 := Tryd.sizeOf4
  v4 := Tryd.zeroValue4
  t5 := Tryd.underlying5
  a5 := Tryd.isAgg5
  z5 := Tryd.sizeOf5
  v5 := Tryd.zeroValue5
  t9 := Tryd.underlying9
  a9 := Tryd.isAgg9
  z9 := Tryd.sizeOf9
  v9 := Tryd.zeroValue9
  t20 := Tryd.underlying20
  a20 := Tryd.isAgg20
  z20 := Tryd.sizeOf20
  v20 := Tryd.zeroValue20
  t37 := Tryd.underlying55
  a37 := Tryd.isAgg55
  z37 := Tryd.sizeOf55
  v37 := Tryd.zeroValue55
  t46 := Tryd.underlying63
  a46 := Tryd.isAgg63
  z46 := Tryd.sizeOf63
  v46 := Tryd.zeroValue63
  t51 := Tryd.underlying61
  a51 := Tryd.isAgg61
  z51 := Tryd.sizeOf61
  v51 := Tryd.zeroValue61
  t53 := Tryd.underlying52
  a53 := Tryd.isAgg52
  z53 := Tryd.sizeOf52
  v53 := Tryd.zeroValue52
  t171 := Tryd.underlying51
  a171 := Tryd.isAgg51
  z171 := Tryd.sizeOf51
  v171 := Tryd.zeroValue51
  t173 := Tryd.underlying56
  a173 := Tryd.isAgg56
  z173 := Tryd.sizeOf56
  v173 := Tryd.zeroValue56
  t212 := Tryd.underlying60
  a212 := Tryd.isAgg60
  z212 := Tryd.sizeOf60
  v212 := Tryd.zeroValue60
  t213 := Tryd.underlying62
  a213 := Tryd.isAgg62
  z213 := Tryd.sizeOf62
  t232 := Tryd.underlying66
  a232 := Tryd.isAgg66
  z232 := Tryd.sizeOf66
  v232 := Tryd.zeroValue66
  t233 := Tryd.underlying67
  a233 := Tryd.isAgg67
  z233 := Tryd.sizeOf67
  v233 := Tryd.zeroValue67
  g17 := by kernel_rfl
  g18 := by kernel_rfl
  g19 := by kernel_rfl
  i0 := by kernel_rfl
  i2 := by kernel_rfl
  i3 := by kernel_rfl
  i4 := by kernel_rfl
  i5 := by kernel_rfl
  i9 := by kernel_rfl
  i20 := by kernel_rfl
  i37 := by kernel_rfl
  i46 := by kernel_rfl
  i51 := by kernel_rfl
  i53 := by kernel_rfl
  i173 := by kernel_rfl
  m17 := by kernel_rfl
  m18 := by kernel_rfl
  m19 := by kernel_rfl
  i171 := by kernel_rfl
  i212 := by kernel_rfl
  i232 := by kernel_rfl
  i233 := by kernel_rfl

def gl : List Nat := [100,101,102,527,145,112,528,529,113,135,168,276,148,274,530,149,150,186,275,273,173,165,284,188,283,185,290,294,296,297,298,299,300,301,302,303,304,305,306,216,217,218,219,220,221,222,223,224,225,226,227,228,229,230,231,307,308,309,310,311,312]
def irs : List (Nat × AFunc) := [(145, ir145), (148, ir148), (150, ir150), (173, ir173), (149, ir149), (113, ir113), (135, ir135), (112, ir112), (165, ir165), (186, ir186), (168, ir168), (284, ir284), (275, ir275), (276, ir276), (528, ir528), (185, ir185), (188, ir188), (273, ir273), (274, ir274), (530, ir530), (529, ir529), (527, ir527)]
def prims : Nat → Option (List AV → AHeap → Option (AV × AHeap)) := fun g => if g = 283 then some itoaPrim else none
def tab : Tab := tabOf irs prims
theorem k145 : compileFn Tryd.prog (gOf gl) Tryd.f4 = some ir145 := by kernel_rfl
theorem k148 : compileFn Tryd.prog (gOf gl) Tryd.f12 = some ir148 := by kernel_rfl
theorem k150 : compileFn Tryd.prog (gOf gl) Tryd.f16 = some ir150 := by kernel_rfl
theorem k173 : compileFn Tryd.prog (gOf gl) Tryd.f20 = some ir173 := by kernel_rfl
theorem k149 : compileFn Tryd.prog (gOf gl) Tryd.f15 = some ir149 := by kernel_rfl
theorem k113 : compileFn Tryd.prog (gOf gl) Tryd.f8 = some ir113 := by kernel_rfl
theorem k135 : compileFn Tryd.prog (gOf gl) Tryd.f9 = some ir135 := by kernel_rfl
theorem k112 : compileFn Tryd.prog (gOf gl) Tryd.f5 = some ir112 := by kernel_rfl
theorem k165 : compileFn Tryd.prog (gOf gl) Tryd.f21 = some ir165 := by kernel_rfl
theorem k186 : compileFn Tryd.prog (gOf gl) Tryd.f17 = some ir186 := by kernel_rfl
theorem k168 : compileFn Tryd.prog (gOf gl) Tryd.f10 = some ir168 := by kernel_rfl
theorem k284 : compileFn Tryd.prog (gOf gl) Tryd.f22 = some ir284 := by kernel_rfl
theorem k275 : compileFn Tryd.prog (gOf gl) Tryd.f18 = some ir275 := by kernel_rfl
theorem k276 : compileFn Tryd.prog (gOf gl) Tryd.f11 = some ir276 := by kernel_rfl
theorem k528 : compileFn Tryd.prog (gOf gl) Tryd.f6 = some ir528 := by kernel_rfl
theorem k185 : compileFn Tryd.prog (gOf gl) Tryd.f25 = some ir185 := by kernel_rfl
theorem k188 : compileFn Tryd.prog (gOf gl) Tryd.f23 = some ir188 := by kernel_rfl
theorem k273 : compileFn Tryd.prog (gOf gl) Tryd.f19 = some ir273 := by kernel_rfl
theorem k274 : compileFn Tryd.prog (gOf gl) Tryd.f13 = some ir274 := by kernel_rfl
theorem k530 : compileFn Tryd.prog (gOf gl) Tryd.f14 = some ir530 := by kernel_rfl
theorem k529 : compileFn Tryd.prog (gOf gl) Tryd.f7 = some ir529 := by kernel_rfl
theorem k527 : compileFn Tryd.prog (gOf gl) Tryd.f3 = some ir527 := by kernel_rfl
theorem linked : Linked Tryd.prog (gOf gl) irs 0 gl := (.no rfl (.no rfl (.no rfl (.yes (ir := ir527) rfl Tryd.func3 k527 (.yes (ir := ir145) rfl Tryd.func4 k145 (.yes (ir := ir112) rfl Tryd.func5 k112 (.yes (ir := ir528) rfl Tryd.func6 k528 (.yes (ir := ir529) rfl Tryd.func7 k529 (.yes (ir := ir113) rfl Tryd.func8 k113 (.yes (ir := ir135) rfl Tryd.func9 k135 (.yes (ir := ir168) rfl Tryd.func10 k168 (.yes (ir := ir276) rfl Tryd.func11 k276 (.yes (ir := ir148) rfl Tryd.func12 k148 (.yes (ir := ir274) rfl Tryd.func13 k274 (.yes (ir := ir530) rfl Tryd.func14 k530 (.yes (ir := ir149) rfl Tryd.func15 k149 (.yes (ir := ir150) rfl Tryd.func16 k150 (.yes (ir := ir186) rfl Tryd.func17 k186 (.yes (ir := ir275) rfl Tryd.func18 k275 (.yes (ir := ir273) rfl Tryd.func19 k273 (.yes (ir := ir173) rfl Tryd.func20 k173 (.yes (ir := ir165) rfl Tryd.func21 k165 (.yes (ir := ir284) rfl Tryd.func22 k284 (.yes (ir := ir188) rfl Tryd.func23 k188 (.no rfl (.yes (ir := ir185) rfl Tryd.func25 k185 (.no rfl (.no rfl (.no rfl (.no rfl (.no rfl (.no rfl (.no rfl (.no rfl (.no rfl (.no rfl (.no rfl (.no rfl (.no rfl (.no rfl (.no rfl (.no rfl (.no rfl (.no rfl (.no rfl (.no rfl (.no rfl (.no rfl (.no rfl (.no rfl (.no rfl (.no rfl (.no rfl (.no rfl (.no rfl (.no rfl (.no rfl (.no rfl (.no rfl (.no rfl (.no rfl trivial)))))))))))))))))))))))))))))))))))))))))))))))))))))))))))))
theorem primsOk {B : Nat} {w0 : World} (hT : Lib.TabBelow Tryd.prog B w0 "internal/strconv.uint64pow10" .u64 Lib.pow10Tab) : ∀ f q, prims (gOf gl f) = some q → ∀ args H v H', q args H = some (v, H') → ∀ E w us, HRel (gOf gl) B w0 E H w → VRs (gOf gl) H.next E args us → Back Tryd.prog (gOf gl) B w0 E H w (callFunc f us.toArray) v H' := by
  intro f q h
  unfold prims at h
  split at h
  · rename_i e
    simp only [Option.some.injEq] at h
    subst h
    have := gOf_at (gl := gl) (i := 24) (by decide) (by decide +kernel) e
    subst this
    exact itoa_back lays171 rfl hT
  cases h
theorem link {B : Nat} {w0 : World} (hT : Lib.TabBelow Tryd.prog B w0 "internal/strconv.uint64pow10" .u64 Lib.pow10Tab) : Link Tryd.prog (gOf gl) B w0 tab.fn tab.prim := link_of (by kernel_rfl) (by decide) linked (by exact primsOk hT)
theorem d145 : D145 tab := ⟨rfl, rfl⟩
theorem d148 : D148 tab := ⟨rfl, rfl⟩
theorem d150 : D150 tab := ⟨rfl, rfl⟩
theorem d173 : D173 tab := ⟨rfl, rfl⟩
theorem d149 : D149 tab := ⟨rfl, rfl, d173⟩
theorem d113 : D113 tab := ⟨rfl, rfl, d148, d150, d149⟩
theorem d135 : D135 tab := ⟨rfl, rfl⟩
theorem d112 : D112 tab := ⟨rfl, rfl, d113, d135⟩
theorem d165 : D165 tab := ⟨rfl, rfl⟩
theorem d186 : D186 tab := ⟨rfl, rfl, d165⟩
theorem d168 : D168 tab := ⟨rfl, rfl, d186⟩
theorem d284 : D284 tab := ⟨rfl, rfl⟩
theorem d275 : D275 tab := ⟨rfl, rfl, d284⟩
theorem d276 : D276 tab := ⟨rfl, rfl, d275⟩
theorem d528 : D528 tab := ⟨rfl, rfl, d168, d276⟩
theorem d185 : D185 tab := ⟨rfl, rfl⟩
theorem d188 : D188 tab := ⟨rfl, rfl, d185⟩
theorem d273 : D273 tab := ⟨rfl, rfl, d188, rfl⟩
theorem d274 : D274 tab := ⟨rfl, rfl, d273⟩
theorem d530 : D530 tab := ⟨rfl, rfl⟩
theorem d529 : D529 tab := ⟨rfl, rfl, d148, d274, d530⟩
theorem d527 : D527 tab := ⟨rfl, rfl, d145, d112, d528, d529⟩
theorem own : ownKnob Tryd.prog.godebug = none := by kernel_rfl
theorem gTab : Tryd.prog.globalNamed "internal/strconv.uint64pow10" = some 0 := by kernel_rfl
theorem gTabType : (Tryd.prog.globals[0]?).map (·.type) = some 60 := by kernel_rfl
theorem cellsT : Tryd.prog.cellsOf 60 = 20 := by kernel_rfl
theorem cellsE : Tryd.prog.cellsOf 52 = 1 := by kernel_rfl
theorem table {W : World} (h : laidMetH Tryd.prog Rows.listFirstsRow.laid W) : Lib.TabIs Tryd.prog W "internal/strconv.uint64pow10" .u64 Lib.pow10Tab :=
  Lib.tabIs_of_head (rest := []) gTab gTabType Tryd.underlying60 Tryd.underlying52 cellsE cellsT (laidMet_tail (laidMet_tail (h)))
theorem contract (H : Type) (enc : TypeId × Value → H) (W : World) (base : Nat) (args : Array Value) (ds gs : List (DataW H)) (before : List MemPlace)
    (hval : ∀ (j : Nat) t v, Tryd.f3.params[j]? = some t → args[j]? = some v → Value.okWide Tryd.prog W .any base t v)
    (hW : DataW.Whole enc Tryd.prog Tryd.f3.params.toList Rows.listFirstsSpec.vars false W args.toList ds gs before) (hL : laidMetH Tryd.prog Rows.listFirstsRow.laid W) :
    Calls Tryd.prog 3 args W fun e W' => ∃ v, e = .returned v ∧ Rows.listFirstsSpec.post enc Tryd.prog Tryd.f3 false true false false W args v W' :=
  row_contract (G := gOf gl) (n := 12) (ss := [.slice shC]) (tb := 4) (link (Lib.tabBelow_of_tabIs (table hL))) (f := 3) (ir := ir527) rfl rfl (by kernel_rfl) (by kernel_rfl) (by kernel_rfl) rfl (by kernel_rfl) Tryd.underlying4 hval hW
    (fun hl => by
      have hp : Tryd.f3.params.toList.length = 1 := by kernel_rfl
      rw [hp] at hl
      refine match ds, hl with
      | [d1], _ => ?_
      rfl) (fun K vs hw hg => law527 d527 hw hg)
noncomputable def laidWorld (os : Os) : World :=
  { World.holding Tryd.prog os ⟨#[], #[], []⟩ with heap := (Array.modify (Array.modify (Array.modify (World.holding Tryd.prog os ⟨#[], #[], []⟩).heap 1 (fun (o : Obj) => match o with | .cells _ t frozen => .cells #[.int .u8 0, .int .u8 1, .int .u8 28, .int .u8 2, .int .u8 29, .int .u8 14, .int .u8 24, .int .u8 3, .int .u8 30, .int .u8 22, .int .u8 20, .int .u8 15, .int .u8 25, .int .u8 17, .int .u8 4, .int .u8 8, .int .u8 31, .int .u8 27, .int .u8 13, .int .u8 23, .int .u8 21, .int .u8 19, .int .u8 16, .int .u8 7, .int .u8 26, .int .u8 12, .int .u8 18, .int .u8 6, .int .u8 11, .int .u8 5, .int .u8 10, .int .u8 9] t frozen | o => o)) 2 (fun (o : Obj) => match o with | .cells _ t frozen => .cells #[.int .u8 0, .int .u8 1, .int .u8 56, .int .u8 2, .int .u8 57, .int .u8 49, .int .u8 28, .int .u8 3, .int .u8 61, .int .u8 58, .int .u8 42, .int .u8 50, .int .u8 38, .int .u8 29, .int .u8 17, .int .u8 4, .int .u8 62, .int .u8 47, .int .u8 59, .int .u8 36, .int .u8 45, .int .u8 43, .int .u8 51, .int .u8 22, .int .u8 53, .int .u8 39, .int .u8 33, .int .u8 30, .int .u8 24, .int .u8 18, .int .u8 12, .int .u8 5, .int .u8 63, .int .u8 55, .int .u8 48, .int .u8 27, .int .u8 60, .int .u8 41, .int .u8 37, .int .u8 16, .int .u8 46, .int .u8 35, .int .u8 44, .int .u8 21, .int .u8 52, .int .u8 32, .int .u8 23, .int .u8 11, .int .u8 54, .int .u8 26, .int .u8 40, .int .u8 15, .int .u8 34, .int .u8 20, .int .u8 31, .int .u8 10, .int .u8 25, .int .u8 14, .int .u8 19, .int .u8 9, .int .u8 13, .int .u8 8, .int .u8 7, .int .u8 6] t frozen | o => o)) 0 (fun (o : Obj) => match o with | .cells _ t frozen => .cells #[.int .u64 1, .int .u64 10, .int .u64 100, .int .u64 1000, .int .u64 10000, .int .u64 100000, .int .u64 1000000, .int .u64 10000000, .int .u64 100000000, .int .u64 1000000000, .int .u64 10000000000, .int .u64 100000000000, .int .u64 1000000000000, .int .u64 10000000000000, .int .u64 100000000000000, .int .u64 1000000000000000, .int .u64 10000000000000000, .int .u64 100000000000000000, .int .u64 1000000000000000000, .int .u64 10000000000000000000] t frozen | o => o)) }
theorem laid_met (os : Os) : laidMet Tryd.prog Rows.listFirstsRow.laid ((laidWorld os).forCall (fun _ _ => 0) ⟨#[], #[.slice none 0 0], []⟩).memory :=
  laidMet_of_run' 8 (by kernel_rfl) (by kernel_rfl)
theorem reads (os : Os) {H : Type} (enc : TypeId × Value → H) : ∃ places, DataW.whole enc Tryd.prog ((laidWorld os).forCall (fun _ _ => 0) ⟨#[], #[.slice none 0 0], []⟩).memory Tryd.f3.params.toList Rows.listFirstsSpec.vars false #[.slice none 0 0].toList 8 = some ([.nil], [], places) :=
  ⟨[], by kernel_rfl⟩
theorem lifted (os : Os) (started : os.Started) (H : Type) (enc : TypeId × Value → H) (F : Stop.Interp) :
    ReturnsInHanded {} Tryd.checked os 3 .any ((OpenSpec.ofChange Rows.listFirstsSpec).preRow enc Tryd.prog Tryd.f3 Rows.listFirstsRow.domain false Rows.listFirstsRow.laid) (((OpenSpec.ofChange Rows.listFirstsSpec).at F).post enc Tryd.prog Tryd.f3 false true false false) := by
  obtain ⟨places, hx⟩ := reads os enc
  refine returnsInHanded_of_row (C := Tryd.checked) (s := OpenSpec.ofChange Rows.listFirstsSpec) own started (by kernel_rfl) Tryd.func3
    (witness_row_at (enc := enc) (C := Tryd.checked) false (laidWorld os) #[.slice none 0 0] rfl (by kernel_rfl) (by kernel_rfl) (by kernel_rfl)
      (OpenSpec.preRow_of_cond 8 hx (by kernel_rfl) (fun k hk => by cases hk) (by kernel_rfl) (laid_met os))) ?_
  intro W base args ds gs before hval hW _ _ _ hL _ _
  exact contract H enc W base args ds gs before hval hW hL
theorem over : Rows.listFirstsRow.holds Tryd.pinned (OpenSpec.ofChange Rows.listFirstsSpec) :=
  OpenClaim.holds_of_cond 3 Tryd.f3 rfl rfl rfl rfl rfl rfl rfl ⟨rfl, rfl, rfl, rfl, rfl⟩ rfl rfl rfl rfl rfl (by kernel_rfl) Tryd.func3 (by kernel_rfl)
    (of_decide_eq_true (by kernel_rfl)) (by unfold Func.isWrapper; first | (rw [if_pos (by decide +kernel)]; kernel_rfl) | (rw [if_neg (by decide +kernel)]; exact ⟨rfl, rfl⟩))
    (fun os started H enc _ F => by rw [OpenClaim.pre_eq_preRow]; exact lifted os started H enc F)
theorem plain (f : FuncId) (fn : Func) (hf : Tryd.pinned.checked.prog.funcNamed "motley/motleylaw11.ListFirsts" = some f) (hfn : Tryd.pinned.checked.prog.funcs[f]? = some fn) :
    false = Tryd.pinned.checked.prog.looks [] ∧ ∀ (j : Nat) t, fn.params[j]? = some t → Tryd.pinned.checked.prog.wantsStandIn t = false := by
  obtain rfl : f = 3 := Option.some.inj ((show Tryd.prog.funcNamed "motley/motleylaw11.ListFirsts" = some 3 by kernel_rfl).symm.trans hf) |>.symm
  obtain rfl : fn = Tryd.f3 := (Option.some.inj (Tryd.func3.symm.trans hfn)).symm
  refine ⟨by kernel_rfl, fun j t ht => ?_⟩
  have h : (Tryd.f3.params.toList.all fun t => !Tryd.prog.wantsStandIn t) = true := by kernel_rfl
  have := List.all_eq_true.1 h t (by simpa using Array.mem_of_getElem? ht)
  show Tryd.prog.wantsStandIn t = false
  simpa using this
end ListFirsts_
/-- THE TIED CARD. -/
theorem listFirsts_proved : Rows.ListFirstsCardSaid :=
  Claim7.holds_tied_plain_at .later [] _ _ _ _ ListFirsts_.over (fun _ h => by cases h) (by kernel_rfl) (fun _ h => by cases h) listFirsts_row_tie rfl ⟨rfl, rfl⟩ (by kernel_rfl) rfl ListFirsts_.plain (by kernel_rfl)
#print axioms listFirsts_proved
end Go.Proofs.YtjmiblcdjkcgoaaDoor
