/- Contracts of package heap: State, Get, Clear, Set, Make, New. -/
import Derived.Test.YtigpdaofldfkoaaAmHeapsA
import Derived.Test.YtigpdaofldfkoaaAmFloat
set_option linter.unusedVariables false
set_option linter.unusedSimpArgs false
namespace Go.Am
variable {T : Tab}
section
variable {k : Nat} {tg tg' : Tags} {H H' : AHeap} {b : Nat} {lk : Int} {S : Hp} {fb m : Nat} {cv nv : AV} {fc fn : Option Nat} {xs : List (AV × Cel)} {ff : Nat → Option Nat}
theorem HpI.fvcell (h : HpI k tg H b lk S fb m cv nv fc fn xs ff) {i : Int} (h0 : 0 ≤ i) (h1 : i < S.cells.length) : (nth xs i).1.cell = true := (h.fld h0 h1).form.1
theorem c340 (D : D340 T) (hw : WF H) (hk : TagOk tg H) (h : HpR k tg H b 0 S) {i : Int} :
    Calls T 340 [.ptr (some (b, 0)), .int .i64 i] H fun r K => r = .tup [.int .i64 (stateR S i).1, .int .i64 (stateR S i).2] ∧ To k tg H b 0 S K := by
  refine Calls.fnD D.pr D.fn ?_
  simp [ir340]
  refine WC.of (c357 D.d357 hw hk h) ?_
  rintro r K ⟨rfl, tg1, u1, h1⟩
  obtain ⟨fb, m, cv, nv, fc, fn, xs, ff, hi⟩ := h1
  simp
  refine WC.of (c359 D.d359 u1.wf u1.ok hi) ?_
  rintro r K ⟨rfl, rfl⟩
  simp
  by_cases hz : hasR S i false = 0
  · obtain ⟨q1, q2, _⟩ := hasR_in hz
    obtain ⟨bo, oo, e1, e2, e3, e4, e5, e6, e7, _⟩ := hi.cell u1.wf u1.ok q1 q2
    have ia := hi.ia (kk := .i64) q1 q2
    have hfc := hi.fvcell q1 q2
    obtain ⟨X, b1, b2, b3⟩ := box_copy u1.wf (n := 5) (zs := [.slc none 0 0 none, .bool false, .bool false, .bool false, .int .i64 0]) (ds := [(nth xs i).1, .bool (nth S.cells i).w, .bool (nth S.cells i).t, .bool (nth S.cells i).e, .int .i64 (nth S.cells i).n]) rfl rfl (by simp only [List.all_cons, hfc]; rfl)
    have l3 : rsem (.ld 1 false) [.ptr (some (K.next, 3))] X = some (.bool (nth S.cells i).e) := by simp [rsem, AHeap.ld, b3.row]
    have l2 : rsem (.ld 1 false) [.ptr (some (K.next, 2))] X = some (.bool (nth S.cells i).t) := by simp [rsem, AHeap.ld, b3.row]
    have u2 := Up.fr (k := k) u1.wf u1.ok b2
    have g : HpR k tg1 X b 1 S := HpR.fr ⟨_, _, _, _, _, _, _, _, hi⟩ u1.wf b2
    simp [hz, hi.ldc, ia, e1, e7, encC, AV.cells, AV.cell, b1, l3]
    cases he : (nth S.cells i).e with
    | true =>
      have hR : stateR S i = (2, 0) := by unfold stateR; rw [if_neg (by simp [hz]), if_pos he]
      simp [he, hR]
      exact unlock_to D.d357 hw (u1.trans hw u2) g fun K t => t
    | false =>
      simp [he, l2]
      cases ht : (nth S.cells i).t with
      | true =>
        have hR : stateR S i = (1, 0) := by unfold stateR; rw [if_neg (by simp [hz]), if_neg (by simp [he]), if_pos ht]
        simp [ht, hR]
        exact unlock_to D.d357 hw (u1.trans hw u2) g fun K t => t
      | false =>
        have hR : stateR S i = (0, 0) := by unfold stateR; rw [if_neg (by simp [hz]), if_neg (by simp [he]), if_neg (by simp [ht])]
        simp [ht, hR]
        exact unlock_to D.d357 hw (u1.trans hw u2) g fun K t => t
  · have hR : stateR S i = (0, hasR S i false) := by unfold stateR; rw [if_pos hz]
    simp [hz, hR]
    exact unlock_to D.d357 hw u1 ⟨_, _, _, _, _, _, _, _, hi⟩ fun K t => t
def getR (S : Hp) (i f : Int) : Fld × Int := if hasFieldR S i f ≠ 0 then (⟨false, false, 0⟩, hasFieldR S i f) else (nth (nth S.cells i).fs f, 0)
theorem c344 (D : D344 T) (hw : WF H) (hk : TagOk tg H) (h : HpR k tg H b 0 S) {i f : Int} :
    Calls T 344 [.ptr (some (b, 0)), .int .i64 i, .int .i64 f] H fun r K => r = .tup [.int .i64 (getR S i f).1.to, .bool (getR S i f).1.is, .bool (getR S i f).1.weak, .int .i64 (getR S i f).2] ∧ To k tg H b 0 S K := by
  refine Calls.fnD D.pr D.fn ?_
  simp [ir344]
  refine WC.of (c357 D.d357 hw hk h) ?_
  rintro r K ⟨rfl, tg1, u1, h1⟩
  obtain ⟨fb, m, cv, nv, fc, fn, xs, ff, hi⟩ := h1
  simp
  refine WC.of (c373 D.d373 u1.wf u1.ok hi) ?_
  rintro r K ⟨rfl, rfl⟩
  simp
  by_cases hz : hasFieldR S i f = 0
  · obtain ⟨q1, q2, _, q3, q4⟩ := hasFieldR_in hz
    have hR : getR S i f = (nth (nth S.cells i).fs f, 0) := by unfold getR; rw [if_neg (by simp [hz])]
    obtain ⟨bo, oo, e1, e2, _⟩ := hi.cell u1.wf u1.ok q1 q2
    obtain ⟨b2, o2, p1, p2, _⟩ := hi.setField u1.wf u1.ok q1 q2 q3 q4
    have ia := hi.ia (kk := .i64) q1 q2
    have ia2 := (hi.fld q1 q2).ia (k := .i64) q3 q4
    obtain ⟨x, hx⟩ : ∃ x, nth (nth S.cells i).fs f = x := ⟨_, rfl⟩
    have ld2 : rsem (.ld 3 true) [.ptr (some (b2, o2))] K = some (encF x) := by rw [hx] at p2; simp [rsem, p2, encF, AV.cells]
    obtain ⟨X, b1, b2', b3⟩ := box_copy u1.wf (n := 3) (zs := [.bool false, .bool false, .int .i64 0]) (ds := [.bool x.is, .bool x.weak, .int .i64 x.to]) rfl rfl (by simp [AV.cell])
    have l0 : rsem (.ld 1 false) [.ptr (some (K.next, 0))] X = some (.bool x.is) := by simp [rsem, AHeap.ld, b3.row]
    have l1 : rsem (.ld 1 false) [.ptr (some (K.next, 1))] X = some (.bool x.weak) := by simp [rsem, AHeap.ld, b3.row]
    have l2 : rsem (.ld 1 false) [.ptr (some (K.next, 2))] X = some (.int .i64 x.to) := by simp [rsem, AHeap.ld, b3.row]
    have u2 := Up.fr (k := k) u1.wf u1.ok b2'
    have g : HpR k tg1 X b 1 S := HpR.fr ⟨_, _, _, _, _, _, _, _, hi⟩ u1.wf b2'
    simp [hz, hi.ldc, ia, e1, e2, ia2, p1, ld2, encF, AV.cells, AV.cell, b1, l0, l1, l2, hR, hx]
    exact unlock_to D.d357 hw (u1.trans hw u2) g fun K t => t
  · have hR : getR S i f = (⟨false, false, 0⟩, hasFieldR S i f) := by unfold getR; rw [if_pos hz]
    simp [hz, hR]
    exact unlock_to D.d357 hw u1 ⟨_, _, _, _, _, _, _, _, hi⟩ fun K t => t
theorem c346 (D : D346 T) (hw : WF H) (hk : TagOk tg H) (h : HpR k tg H b 0 S) {i f : Int} (hb : Bnd S) (ht : hasFieldR S i f = 0 → ToIn S i f) :
    Calls T 346 [.ptr (some (b, 0)), .int .i64 i, .int .i64 f] H fun r K => r = .int .i64 (hasFieldR S i f) ∧ To k tg H b 0 (if hasFieldR S i f = 0 then emptyR S i f else S) K := by
  refine Calls.fnD D.pr D.fn ?_
  simp [ir346]
  refine WC.of (c357 D.d357 hw hk h) ?_
  rintro r K ⟨rfl, tg1, u1, h1⟩
  obtain ⟨fb, m, cv, nv, fc, fn, xs, ff, hi⟩ := h1
  simp
  refine WC.of (c373 D.d373 u1.wf u1.ok hi) ?_
  rintro r K ⟨rfl, rfl⟩
  simp
  by_cases hz : hasFieldR S i f = 0
  · obtain ⟨q1, q2, _, q3, q4⟩ := hasFieldR_in hz
    simp [hz]
    refine WC.of (c374 D.d374 u1.wf u1.ok ⟨_, _, _, _, _, _, _, _, hi⟩ q1 q2 q3 q4 (ht hz) hb) ?_
    rintro r X ⟨rfl, tg2, u2, h2⟩
    simp
    exact unlock_to D.d357 hw (u1.trans hw u2) h2 fun K t => t
  · simp [hz]
    exact unlock_to D.d357 hw u1 ⟨_, _, _, _, _, _, _, _, hi⟩ fun K t => t
def setR (S : Hp) (i f to : Int) (weak : Bool) : Hp × Int :=
  if hasFieldR S i f ≠ 0 then (S, hasFieldR S i f) else
  if hasR S to true ≠ 0 then (S, hasR S to true) else
  let S1 := emptyR S i f
  let S2 := setC S1 i { nth S1.cells i with fs := (nth S1.cells i).fs.set f.toNat ⟨true, weak, to⟩ }
  (if weak = true then S2 else setC S2 to { nth S2.cells to with n := (nth S2.cells to).n + 1 }, 0)
theorem c345 (D : D345 T) (hw : WF H) (hk : TagOk tg H) (h : HpR k tg H b 0 S) {i f to : Int} {weak : Bool} (hb : Bnd S) (ht : hasFieldR S i f = 0 → ToIn S i f) :
    Calls T 345 [.ptr (some (b, 0)), .int .i64 i, .int .i64 f, .int .i64 to, .bool weak] H fun r K => r = .int .i64 (setR S i f to weak).2 ∧ To k tg H b 0 (setR S i f to weak).1 K := by
  refine Calls.fnD D.pr D.fn ?_
  simp [ir345]
  refine WC.of (c357 D.d357 hw hk h) ?_
  rintro r K ⟨rfl, tg1, u1, h1⟩
  obtain ⟨fb, m, cv, nv, fc, fn, xs, ff, hi⟩ := h1
  simp
  refine WC.of (c373 D.d373 u1.wf u1.ok hi) ?_
  rintro r K ⟨rfl, rfl⟩
  simp
  by_cases hz : hasFieldR S i f = 0
  · obtain ⟨q1, q2, _, q3, q4⟩ := hasFieldR_in hz
    simp [hz]
    refine WC.of (c359 D.d359 u1.wf u1.ok hi) ?_
    rintro r K ⟨rfl, rfl⟩
    simp
    by_cases hz2 : hasR S to true = 0
    · obtain ⟨t1, t2, _⟩ := hasR_in hz2
      simp [hz2]
      refine WC.of (c374 D.d374 u1.wf u1.ok ⟨_, _, _, _, _, _, _, _, hi⟩ q1 q2 q3 q4 (ht hz) hb) ?_
      rintro r X ⟨rfl, tg2, u2, h2⟩
      obtain ⟨fb2, m2, cv2, nv2, fc2, fn2, xs2, ff2, h2⟩ := h2
      obtain ⟨n1, n2, n3, n4, n5⟩ := emptyR_nth q1 q2 (ht hz) q1
      rw [if_pos rfl] at n1
      have q2' : i < (emptyR S i f).cells.length := by rw [emptyR_len]; exact q2
      have q4' : f < (nth (emptyR S i f).cells i).fs.length := by rw [n1]; simpa using q4
      obtain ⟨bo, oo, e1, e2, _⟩ := h2.cell u2.wf u2.ok q1 q2'
      obtain ⟨b3, o3, p1, p2, st⟩ := h2.setField u2.wf u2.ok q1 q2' q3 q4'
      have ia := h2.ia (kk := .i64) q1 q2'
      have ia2 := (h2.fld q1 q2').ia (k := .i64) q3 q4'
      obtain ⟨Y, r1, r2, r3, g⟩ := st ⟨true, weak, to⟩
      have r1' : wsem0 (.st 3) [.ptr (some (b3, o3)), .agg [.bool true, .bool weak, .int .i64 to]] X = some (.undef, Y) := by simp only [encF, AV.cells] at r1; simp [wsem0_st, AV.cells, r1]
      have g' : HpI k tg2 Y b 1 (setC (emptyR S i f) i { nth (emptyR S i f).cells i with fs := (nth (emptyR S i f).cells i).fs.set f.toNat ⟨true, weak, to⟩ }) fb2 m2 cv2 nv2 fc2 fn2 (xs2.set i.toNat ((nth xs2 i).1, { nth (emptyR S i f).cells i with fs := (nth (emptyR S i f).cells i).fs.set f.toNat ⟨true, weak, to⟩ })) ff2 := g
      obtain ⟨S2, hS2⟩ : ∃ S2, setC (emptyR S i f) i { nth (emptyR S i f).cells i with fs := (nth (emptyR S i f).cells i).fs.set f.toNat ⟨true, weak, to⟩ } = S2 := ⟨_, rfl⟩
      have hR : setR S i f to weak = (if weak = true then S2 else setC S2 to { nth S2.cells to with n := (nth S2.cells to).n + 1 }, 0) := by unfold setR; rw [if_neg (by simp [hz]), if_neg (by simp [hz2])]; simp only [hS2]
      have hl2 : S2.cells.length = S.cells.length := by rw [← hS2]; simp
      have hn2 : -(2 ^ 60) ≤ (nth S2.cells to).n ∧ (nth S2.cells to).n < 2 ^ 60 := by
        have hbt := hb.n _ (nth_mem t1 t2)
        obtain ⟨_, _, _, _, m5⟩ := emptyR_nth q1 q2 (ht hz) t1
        have : (nth S2.cells to).n = (nth (emptyR S i f).cells to).n := by
          rw [← hS2, setC_nth q1 q2' t1]
          split
          · rename_i e; rw [e]
          · rfl
        rw [this]
        rcases m5 with m5 | m5 <;> rw [m5] <;> omega
      have u3 := (u1.trans hw u2).trans hw r3
      rw [hS2] at g'
      have hbld : psem (.bld [.bool false, .bool false, .int .i64 0] [(0, 1), (1, 1), (2, 1)]) [.bool true, .bool weak, .int .i64 to] = some (.agg [.bool true, .bool weak, .int .i64 to]) := by simp [psem_bld', fill, AV.cells, AV.cell, splice]
      simp [h2.ldc, ia, e1, e2, ia2, p1, hbld, r1']
      cases weak with
      | true =>
        simp [hR]
        exact unlock_to D.d357 hw u3 ⟨_, _, _, _, _, _, _, _, g'⟩ fun K t => t
      | false =>
        have t2' : to < S2.cells.length := by rw [hl2]; exact t2
        obtain ⟨b4, o4, d1, _, _, _, _, d6, _, _, _, st2⟩ := g'.cell r3.wf r3.ok t1 t2'
        have ia3 := g'.ia (kk := .i64) t1 t2'
        obtain ⟨Z, s1, s2, s3, g2⟩ := st2 ((nth S2.cells to).n + 1)
        simp (disch := omega) [g'.ldc, ia3, d1, d6, wrap64, s1, hR]
        exact unlock_to D.d357 hw (u3.trans hw s3) ⟨_, _, _, _, _, _, _, _, g2⟩ fun K t => t
    · have hR : setR S i f to weak = (S, hasR S to true) := by unfold setR; rw [if_neg (by simp [hz]), if_pos hz2]
      simp [hz2, hR]
      exact unlock_to D.d357 hw u1 ⟨_, _, _, _, _, _, _, _, hi⟩ fun K t => t
  · have hR : setR S i f to weak = (S, hasFieldR S i f) := by unfold setR; rw [if_pos hz]
    simp [hz, hR]
    exact unlock_to D.d357 hw u1 ⟨_, _, _, _, _, _, _, _, hi⟩ fun K t => t
/-! ### Make -/
def makeR (S : Hp) (n : Int) (w : Bool) : Hp × Int × Int :=
  if n < 0 ∨ 8 < n then (S, 0, 1) else
  if S.cells.length = 100 then (S, 0, 3) else
  ({ S with cells := S.cells ++ [⟨List.replicate n.toNat ⟨false, false, 0⟩, w, false, false, 0⟩], notes := S.notes ++ [(S.cells.length : Int)] }, S.cells.length, 0)
theorem flat_rep (n : Nat) : ((List.replicate n (⟨false, false, 0⟩ : Fld)).flatMap fun x => (encF x).cells) = (List.replicate n [AV.bool false, .bool false, .int .i64 0]).flatten := by
  rw [List.flatMap_def, List.map_replicate]; rfl
/-- A cell more. -/
theorem HpI.pushCell (h : HpI k tg H b lk S fb m cv nv fc fn xs ff) (hw : WF H) (hk : TagOk tg H) (n : Nat) (w : Bool) (hl : S.cells.length < 2 ^ 30) :
    ∃ v' H1 H2 tg' xs' ff' fc', wsem0 (.app 5 40) [cv, .slc (some (H.next + 1, 0)) 5 1 (some 1)] ((H.new (List.replicate n [AV.bool false, .bool false, .int .i64 0]).flatten).new [.slc (some (H.next, 0)) 3 n (some n), .bool w, .bool false, .bool false, .int .i64 0]) = some (v', H1) ∧ v'.cell = true ∧
      rsem (.ld 1 false) [.ptr (some (b, 2))] (H.new (List.replicate n [AV.bool false, .bool false, .int .i64 0]).flatten) = some cv ∧
      rsem (.ld 1 false) [.ptr (some (b, 2))] ((H.new (List.replicate n [AV.bool false, .bool false, .int .i64 0]).flatten).new [.slc (some (H.next, 0)) 3 n (some n), .bool w, .bool false, .bool false, .int .i64 0]) = some cv ∧
      wsem0 (.st 1) [.ptr (some (b, 2)), v'] H1 = some (.undef, H2) ∧ Up k tg tg' H H2 ∧ HpI k tg' H2 b lk { S with cells := S.cells ++ [⟨List.replicate n ⟨false, false, 0⟩, w, false, false, 0⟩] } fb m v' nv fc' fn xs' ff' := by
  obtain ⟨zs, hzs⟩ : ∃ zs, (List.replicate n [AV.bool false, .bool false, .int .i64 0]).flatten = zs := ⟨_, rfl⟩
  have hzl : zs.length = n * 3 := by rw [← hzs]; simp [List.length_flatten]
  rw [hzs]
  have of := hw.own_new (enc := encF) (sz := 3) (l := List.replicate n ⟨false, false, 0⟩) (cs := zs) (cap := some n) (by simp [encF, AV.cells]) (by simp) (by simp [hzl]) (by rw [flat_rep, hzs, List.length_replicate, List.take_of_length_le (by omega)])
  rw [List.length_replicate] at of
  have f1 : Fr H (H.new zs) := hw.fr_new
  have g1 := h.keeps hw f1.keeps (tg' := tg) fun g t hg ht => ⟨by omega, ht⟩
  obtain ⟨x, hx⟩ : ∃ x : AV × Cel, x = (.slc (some (H.next, 0)) 3 n (some n), ⟨List.replicate n ⟨false, false, 0⟩, w, false, false, 0⟩) := ⟨_, rfl⟩
  have hxc : (encC x).cells = [.slc (some (H.next, 0)) 3 n (some n), .bool w, .bool false, .bool false, .int .i64 0] := by rw [hx]; rfl
  have hlx : xs.length = S.cells.length := h.len
  obtain ⟨v', H1, f', q1, q2, q3, q4, q5⟩ := app_push (bytes := 40) (ys := [x]) f1.wf g1.cs (by omega) (by simp [hxc]) (by simp [hxc, AV.cell]) (by simp; omega) (by simp; omega)
  simp only [List.flatMap_cons, List.flatMap_nil, List.append_nil, hxc, List.length_singleton] at q1
  have nx : (H.new zs).next = H.next + 1 := rfl
  rw [nx] at q1 q5
  have hn1 : H.next + 1 ≤ H1.next := q4.next
  -- the tags
  have t0 : tg H.next = none := hk _ (Nat.le_refl _)
  obtain ⟨tgA, htA⟩ : ∃ tgA, tgA = upd tg H.next (some (k, Tag.fields S.cells.length)) := ⟨_, rfl⟩
  have hA : ∀ g, g < H.next → tgA g = tg g := fun g hg => by rw [htA]; exact upd_ne _ _ _ (by omega)
  have hAn : tgA H.next = some (k, .fields S.cells.length) := by rw [htA]; exact upd_same _ _ _
  obtain ⟨tg', htn, hold, hnew, hok⟩ : ∃ tg' : Tags, (∀ g, f' = some g → tg' g = some (k, .cells)) ∧ (∀ g, g < H.next + 1 → tg' g = tgA g) ∧ (∀ g, H.next ≤ g → ∀ j t, tg' g = some (j, t) → j = k) ∧ TagOk tg' H1 := by
    have baseA : ∀ g, H.next ≤ g → ∀ j t, tgA g = some (j, t) → j = k := by
      intro g hg j t ht
      by_cases e : g = H.next
      · subst e; rw [hAn] at ht; simp at ht; exact ht.1.symm
      · rw [htA, upd_ne _ _ _ e, hk g hg] at ht; cases ht
    have okA : TagOk tgA H1 := fun g hg => by rw [htA, upd_ne _ _ _ (by omega)]; exact hk g (by omega)
    have keep : (∀ g, f' = some g → fc = some g) → ∃ tg' : Tags, (∀ g, f' = some g → tg' g = some (k, .cells)) ∧ (∀ g, g < H.next + 1 → tg' g = tgA g) ∧ (∀ g, H.next ≤ g → ∀ j t, tg' g = some (j, t) → j = k) ∧ TagOk tg' H1 := by
      intro hh
      refine ⟨tgA, fun g hg => ?_, fun _ _ => rfl, baseA, okA⟩
      have e := hh g hg
      have hl := h.cs.2
      rw [e] at hl
      rw [hA g (hl.lt hw)]; exact h.tc g e
    cases f' with
    | none => exact keep (by intro g hg; cases hg)
    | some g =>
      rcases q5 g rfl with e | e
      · exact keep (by intro g' hg; simp at hg; subst hg; exact e)
      · have hlt := q3.2.lt q2
        refine ⟨upd tgA g (some (k, .cells)), (by intro g' hg; simp at hg; subst hg; exact upd_same _ _ _), fun g' hg' => upd_ne _ _ _ (by omega), fun g' hg' j t ht => ?_, fun g' hg' => by rw [upd_ne _ _ _ (by omega)]; exact okA g' hg'⟩
        by_cases e' : g' = g
        · subst e'; rw [upd_same] at ht; simp at ht; exact ht.1.symm
        · rw [upd_ne _ _ _ e'] at ht; exact baseA g' hg' j t ht
  have hold' : ∀ g, g < H.next → tg' g = tg g := fun g hg => by rw [hold g (by omega), hA g hg]
  have up1 : Up k tg tg' H H1 := by
    refine ⟨q2, hok, ?_, fun g => ?_⟩
    · exact Keeps.drop hw ((f1.keeps.mono fun g hg => .inr hg).trans (q4.mono fun g e => .inl ⟨_, h.tc g e⟩))
    · by_cases hg : g < H.next
      · exact .inl (hold' g hg)
      · exact .inr ⟨.inr (by omega), fun j t ht => hnew g (by omega) j t ht⟩
  have l1 := hw.row_fam h.box.row
  have l2 := h.mp.lt hw
  have tb' : tg' fb = some (k, .str) := by rw [hold' _ l1]; exact h.tb
  have hb1 : Box H1 b fb [.int .i32 lk, .int .u32 0, cv, .map (some m), nv] := g1.box.keeps f1.wf q4 fun e => h.ne (h.tc _ e) h.tb (by simp) rfl
  obtain ⟨H2, r1, r2, r3, r4, r5⟩ := hb1.st q2 (off := 2) (vs := [v']) (by simp) (by simpa using q3.1.form.1)
  rw [splice_one (by simp)] at r3
  have hvc : v'.cells = [v'] := q3.1.form.2
  have up2 : Up k tg' tg' H1 H2 := Up.one hok tb' r2 r5 r4
  have ne' : ∀ {g t}, tg' g = some (k, t) → t ≠ .str → g ≠ fb := by
    intro g t hg hne e; subst e; rw [tb'] at hg; simp at hg; exact hne hg.symm
  have ffn : ∀ i x, xs[i]? = some x → i ≠ S.cells.length := fun i x hx e => by
    have := (List.getElem?_eq_some_iff.1 hx).1; omega
  refine ⟨v', H1, H2, tg', xs ++ [x], upd ff S.cells.length (some H.next), f', q1, q3.1.form.1, g1.ldc, ?_, by simp [wsem0_st, hvc, r1], up1.trans hw up2, by simpa using r3, tb', q3.keeps q2 r4 fun g hg => ne' (htn g hg) (by simp), htn, ?_, ?_, ?_, ?_, ?_, ?_⟩
  · have f2 : Fr H ((H.new zs).new [.slc (some (H.next, 0)) 3 n (some n), .bool w, .bool false, .bool false, .int .i64 0]) := f1.trans f1.wf.fr_new
    exact (h.keeps hw f2.keeps (tg' := tg) fun g t hg ht => ⟨by omega, ht⟩).ldc
  · exact (g1.ns.keeps f1.wf q4 fun g hg e => h.ne (h.tc _ e) (h.tn g hg) (by simp) rfl).keeps q2 r4 fun g hg => h.ne (h.tn g hg) h.tb (by simp)
  · intro g hg; rw [hold' g (by have := h.ns.2; rw [hg] at this; exact this.lt hw)]; exact h.tn g hg
  · rw [List.map_append, h.xc, hx]; rfl
  · intro i y hy
    by_cases e : i = S.cells.length
    · subst e
      rw [List.getElem?_append_right (by omega), hlx, Nat.sub_self] at hy
      simp at hy
      subst hy
      rw [upd_same]
      have hne : ∀ g, fc = some g → g ≠ H.next := fun g hg e => by have := h.cs.2; rw [hg] at this; have := this.lt hw; omega
      rw [hx]
      refine ⟨(of.keeps f1.wf q4 fun g hg e => ?_).keeps q2 r4 fun g hg => ?_, fun g hg => ?_⟩
      · simp at hg; subst hg; exact hne _ e rfl
      · simp at hg; subst hg; omega
      · simp at hg; subst hg; rw [hold _ (by omega)]; exact hAn
    · have hi : i < xs.length := by
        have := (List.getElem?_eq_some_iff.1 hy).1
        rw [List.length_append, List.length_singleton] at this
        omega
      rw [List.getElem?_append_left hi] at hy
      rw [upd_ne _ _ _ e]
      obtain ⟨p1, p2⟩ := g1.fs i y hy
      refine ⟨(p1.keeps f1.wf q4 fun g hg e => h.ne (h.tc _ e) (p2 g hg) (by simp) rfl).keeps q2 r4 fun g hg => h.ne (p2 g hg) h.tb (by simp), fun g hg => ?_⟩
      have := (h.fs i y hy).1.2
      rw [hg] at this
      rw [hold' g (this.lt hw)]; exact p2 g hg
  · exact (g1.mp.keeps q4 fun e => h.ne (h.tc _ e) h.tm (by simp) rfl).keeps r4 (h.ne h.tm h.tb (by simp))
  · rw [hold' _ l2]; exact h.tm
theorem c343 (D : D343 T) (hw : WF H) (hk : TagOk tg H) (h : HpR k tg H b 0 S) {n : Int} {w : Bool} (hl : S.cells.length ≤ 100) (hnl : S.notes.length < 2 ^ 39) :
    Calls T 343 [.ptr (some (b, 0)), .int .i64 n, .bool w] H fun r K => r = .tup [.int .i64 (makeR S n w).2.1, .int .i64 (makeR S n w).2.2] ∧ To k tg H b 0 (makeR S n w).1 K := by
  refine Calls.fnD D.pr D.fn ?_
  simp [ir343]
  refine WC.of (c357 D.d357 hw hk h) ?_
  rintro r K ⟨rfl, tg1, u1, h1⟩
  obtain ⟨fb, m, cv, nv, fc, fn, xs, ff, hi⟩ := h1
  simp
  by_cases hn : n < 0
  · have hR : makeR S n w = (S, 0, 1) := by unfold makeR; rw [if_pos (.inl hn)]
    simp [hn, hR]
    exact unlock_to D.d357 hw u1 ⟨_, _, _, _, _, _, _, _, hi⟩ fun K t => t
  · by_cases hn8 : 8 < n
    · have hR : makeR S n w = (S, 0, 1) := by unfold makeR; rw [if_pos (.inr hn8)]
      simp [hn, hn8, hR]
      exact unlock_to D.d357 hw u1 ⟨_, _, _, _, _, _, _, _, hi⟩ fun K t => t
    · by_cases hc : S.cells.length = 100
      · have hR : makeR S n w = (S, 0, 3) := by unfold makeR; rw [if_neg (by omega), if_pos hc]
        simp [hn, hn8, hi.ldc, hi.lenC, hc, hR]
        exact unlock_to D.d357 hw u1 ⟨_, _, _, _, _, _, _, _, hi⟩ fun K t => t
      · obtain ⟨z, rfl⟩ : ∃ z : Nat, n = z := ⟨n.toNat, by omega⟩
        have hR : makeR S (z : Int) w = (({ S with cells := S.cells ++ [(⟨List.replicate z ⟨false, false, 0⟩, w, false, false, 0⟩ : Cel)], notes := S.notes ++ [(S.cells.length : Int)] } : Hp), (S.cells.length : Int), (0 : Int)) := by
          unfold makeR; rw [if_neg (by omega), if_neg hc, Int.toNat_natCast]
        have hc' : ¬ (S.cells.length : Int) = 100 := by omega
        obtain ⟨v', K1, K2, tg2, xs2, ff2, fc2, p1, p2, p3, p4, p5, p6, p7⟩ := hi.pushCell u1.wf u1.ok z w (by omega)
        have hmks : wsem0 (.mks 16 [.bool false, .bool false, .int .i64 0]) [.int .i64 (z : Int), .int .i64 (z : Int)] K = some (.slc (some (K.next, 0)) 3 z (some z), K.new (List.replicate z [AV.bool false, .bool false, .int .i64 0]).flatten) := by
          exact wsem0_mks (by omega) (by simp) (by simp [AV.cell]) (by omega)
        have hbsl := wsem0_bslA (n := 5) (z := [.slc none 0 0 none, .bool false, .bool false, .bool false, .int .i64 0]) (cs := [.slc (some (K.next, 0)) 3 z (some z), .bool w, .bool false, .bool false, .int .i64 0]) (H := K.new (List.replicate z [AV.bool false, .bool false, .int .i64 0]).flatten) rfl rfl (by simp [AV.cell]) (by omega)
        have hbld : psem (.bld [.slc none 0 0 none, .bool false, .bool false, .bool false, .int .i64 0] [(0, 1), (1, 1)]) [.slc (some (K.next, 0)) 3 z (some z), .bool w] = some (.agg [.slc (some (K.next, 0)) 3 z (some z), .bool w, .bool false, .bool false, .int .i64 0]) := by simp [psem_bld', fill, AV.cells, AV.cell, splice]
        have nx : (K.new (List.replicate z [AV.bool false, .bool false, .int .i64 0]).flatten).next = K.next + 1 := rfl
        rw [nx] at hbsl
        obtain ⟨v3, K3, K4, tg3, f3, r1, r2, r3, r4, r5⟩ := p7.pushNote p6.wf p6.ok (S.cells.length : Int) (by simpa using by omega)
        have r3' : wsem0 (.st 1) [.ptr (some (b, 4)), v3] K3 = some (.undef, K4) := by
          have hv : v3.cells = [v3] := by cases v3 <;> simp_all [AV.cells, AV.cell]
          simp [wsem0_st, hv, r3]
        have hb1 := wsem0_bsl1 (v := .int .i64 (S.cells.length : Int)) (z := .int .i64 0) (H := K2) rfl
        have hz : ¬ (z : Int) < 0 := by omega
        simp [hz, hn8, hi.ldc, hi.lenC, hc']
        refine W_floats ?_
        simp [hi.ldc, hmks, hbld, hbsl, p1, p5]
        simp [floatOk, wanted, AV.same_refl, hi.ldc, p3, p4]
        simp [p7.ldn, hb1, r1, r3', hR]
        exact unlock_to D.d357 hw ((u1.trans hw p6).trans hw r4) ⟨_, _, _, _, _, _, _, _, r5⟩ fun K t => t
end
end Go.Am
