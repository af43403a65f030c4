/- The heap of package heap: its roots; and contracts of the lock of package sync. -/
import Derived.Test.YtigpdaofldfkoaaAmHeapB
import Derived.Test.YtigpdaofldfkoaaAmIrHeap
set_option linter.unusedVariables false
set_option linter.unusedSimpArgs false
namespace Go.Am
def rget : List (Int × Int) → Int → Int
  | [], _ => 0
  | (a, v) :: r, k => if a = k then v else rget r k
def rset : List (Int × Int) → Int → Int → List (Int × Int)
  | [], k, v => [(k, v)]
  | (a, w) :: r, k, v => if a = k then (k, v) :: r else (a, w) :: rset r k v
def rdel : List (Int × Int) → Int → List (Int × Int)
  | [], _ => []
  | (a, w) :: r, k => if a = k then r else (a, w) :: rdel r k
theorem rfind (k : Int) : ∀ (es : List (Int × Int)) (i : Nat),
    (∃ j v, findK .int (.int .i64 k) (es.map encE) i = some (some (i + j, .int .i64 v)) ∧ rget es k = v ∧ (∀ w, (es.map encE).set j (.int .i64 k, .int .i64 w) = (rset es k w).map encE) ∧ (es.map encE).eraseIdx j = (rdel es k).map encE) ∨
    (findK .int (.int .i64 k) (es.map encE) i = some none ∧ rget es k = 0 ∧ (∀ w, es.map encE ++ [(.int .i64 k, .int .i64 w)] = (rset es k w).map encE) ∧ rdel es k = es)
  | [], i => .inr ⟨rfl, rfl, fun w => rfl, rfl⟩
  | (a, v) :: r, i => by
    by_cases e : a = k
    · subst e
      refine .inl ⟨0, v, ?_, by simp [rget], fun w => by simp [rset, encE], by simp [rdel]⟩
      simp [findK, encE, keyEq]
    · have hne : (k == a) = false := by simpa using fun h : k = a => e h.symm
      have hf : findK .int (.int .i64 k) (((a, v) :: r).map encE) i = findK .int (.int .i64 k) (r.map encE) (i + 1) := by simp [findK, encE, keyEq, hne]
      rcases rfind k r (i + 1) with ⟨j, x, h1, h2, h3, h4⟩ | ⟨h1, h2, h3, h4⟩
      · refine .inl ⟨j + 1, x, ?_, by simp [rget, e, h2], fun w => ?_, ?_⟩
        · rw [hf, h1]; congr 3; omega
        · have := h3 w; simp [rset, e, this]
        · simp [rdel, e, h4]
      · refine .inr ⟨by rw [hf, h1], by simp [rget, e, h2], fun w => ?_, by simp [rdel, e, h4]⟩
        have := h3 w
        simp only [rset, if_neg e, List.map_cons, List.cons_append, this]
section
variable {k : Nat} {tg tg' : Tags} {H H' : AHeap} {b : Nat} {lk : Int} {S : Hp} {fb m : Nat} {cv nv : AV} {fc fn : Option Nat} {xs : List (AV × Cel)} {ff : Nat → Option Nat}
theorem HpI.setMp (h : HpI k tg H b lk S fb m cv nv fc fn xs ff) (hw : WF H) (hk : TagOk tg H) {rs : List (Int × Int)} (ht : MpTo H H' m (rs.map encE)) : H'.next = H.next ∧ Up k tg tg H H' ∧ HpI k tg H' b lk { S with roots := rs } fb m cv nv fc fn xs ff := by
  have r5 := ht.keeps
  refine ⟨ht.next, Up.one hk h.tm ht.wf ht.next r5, h.box.keeps hw r5 (h.ne h.tb h.tm (by simp)), h.tb, h.cs.keeps hw r5 fun g hg => h.ne (h.tc g hg) h.tm (by simp), h.tc, h.ns.keeps hw r5 fun g hg => h.ne (h.tn g hg) h.tm (by simp), h.tn, h.xc, fun i x hx => ?_, ht.mp, h.tm⟩
  obtain ⟨h1, h2⟩ := h.fs i x hx
  exact ⟨h1.keeps hw r5 fun g hg => h.ne (h2 g hg) h.tm (by simp), h2⟩
theorem HpI.look (h : HpI k tg H b lk S fb m cv nv fc fn xs ff) (a : Int) : rsem (.look .int (.int .i64 0) false) [.map (some m), .int .i64 a] H = some (.int .i64 (rget S.roots a)) := by
  rcases rfind a S.roots 0 with ⟨j, x, h1, h2, _⟩ | ⟨h1, h2, _⟩
  · rw [h.mp.look rfl h1, h2]
  · rw [h.mp.look rfl h1, h2]
theorem HpI.setRoot (h : HpI k tg H b lk S fb m cv nv fc fn xs ff) (hw : WF H) (hk : TagOk tg H) (a w : Int) :
    ∃ H', wsem0 (.mset .int) [.map (some m), .int .i64 a, .int .i64 w] H = some (.undef, H') ∧ H'.next = H.next ∧ Up k tg tg H H' ∧ HpI k tg H' b lk { S with roots := rset S.roots a w } fb m cv nv fc fn xs ff := by
  rcases rfind a S.roots 0 with ⟨j, x, h1, h2, h3, _⟩ | ⟨h1, h2, h3, _⟩
  · obtain ⟨H', q1, q2⟩ := h.mp.mset' hw (v := .int .i64 w) rfl h1
    rw [Nat.zero_add, h3] at q2
    exact ⟨H', q1, h.setMp hw hk q2⟩
  · obtain ⟨H', q1, q2⟩ := h.mp.mset hw (v := .int .i64 w) rfl h1
    rw [h3] at q2
    exact ⟨H', q1, h.setMp hw hk q2⟩
theorem HpI.delRoot (h : HpI k tg H b lk S fb m cv nv fc fn xs ff) (hw : WF H) (hk : TagOk tg H) (a : Int) :
    ∃ H', wsem0 (.mdel .int) [.map (some m), .int .i64 a] H = some (.undef, H') ∧ H'.next = H.next ∧ Up k tg tg H H' ∧ HpI k tg H' b lk { S with roots := rdel S.roots a } fb m cv nv fc fn xs ff := by
  rcases rfind a S.roots 0 with ⟨j, x, h1, h2, h3, h4⟩ | ⟨h1, h2, h3, h4⟩
  · obtain ⟨H', q1, q2⟩ := h.mp.mdel hw rfl h1
    rw [Nat.zero_add, h4] at q2
    exact ⟨H', q1, h.setMp hw hk q2⟩
  · obtain ⟨H', q1, q2⟩ := h.mp.mdel' hw (ck := .int) (k := .int .i64 a) rfl h1
    rw [h4]
    exact ⟨H', q1, h.setMp hw hk q2⟩
end
/-! ### The lock -/
@[simp] theorem one_nil : one [] = .tup [] := rfl
theorem wrap32_0 : IntKind.i32.wrap (1 + -1) = 0 := by decide
variable {T : Tab}
theorem c385 (D : D385 T) {H H' : AHeap} {b o : Nat} (h0 : H.ld b o 1 = some [.int .i32 0]) (h1 : H.st b o [.int .i32 1] = some H') (h2 : H'.ld b o 1 = some [.int .i32 1]) :
    Calls T 385 [.ptr (some (b, o))] H fun r K => r = .tup [] ∧ K = H' := by
  refine Calls.fn D.pr D.fn ?_
  simp [ir385]
  refine WC.of (Calls.prim D.p387 (v := .tup []) (H' := H) rfl ⟨rfl, rfl⟩) (Q := fun v K => v = .tup [] ∧ K = H) ?_
  rintro r K ⟨rfl, rfl⟩
  simp
  refine WC.of (Calls.prim D.p388 (v := .bool true) (H' := H') (by simp [casPrim, h0, h1]) ⟨rfl, rfl⟩) (Q := fun v K => v = .bool true ∧ K = H') ?_
  rintro r K ⟨rfl, rfl⟩
  simp
  refine WC.of (Calls.prim D.p389 (v := .tup []) (H' := K) rfl ⟨rfl, rfl⟩) (Q := fun v X => v = .tup [] ∧ X = K) ?_
  rintro r K ⟨rfl, rfl⟩
  simp [rsem, h2]
  refine WC.of (Calls.prim D.p390 (v := .tup []) (H' := K) rfl ⟨rfl, rfl⟩) (Q := fun v X => v = .tup [] ∧ X = K) ?_
  rintro r K ⟨rfl, rfl⟩
  simp [RV]
theorem c380 (D : D380 T) {H H' : AHeap} {b o : Nat} (h0 : H.ld b o 1 = some [.int .i32 0]) (h1 : H.st b o [.int .i32 1] = some H') (h2 : H'.ld b o 1 = some [.int .i32 1]) :
    Calls T 380 [.ptr (some (b, o))] H fun r K => r = .tup [] ∧ K = H' := by
  refine Calls.fn D.pr D.fn ?_
  simp [ir380]
  refine WC.of (c385 D.d385 h0 h1 h2) ?_
  rintro r K ⟨rfl, rfl⟩
  simp
theorem c386 (D : D386 T) {H H' : AHeap} {b o : Nat} (h0 : H.ld b o 1 = some [.int .i32 1]) (h1 : H.st b o [.int .i32 0] = some H') :
    Calls T 386 [.ptr (some (b, o))] H fun r K => r = .tup [] ∧ K = H' := by
  refine Calls.fn D.pr D.fn ?_
  simp [ir386, rsem, h0]
  refine WC.of (Calls.prim D.p392 (v := .tup []) (H' := H) rfl ⟨rfl, rfl⟩) (Q := fun v K => v = .tup [] ∧ K = H) ?_
  rintro r K ⟨rfl, rfl⟩
  simp
  refine WC.of (Calls.prim D.p387 (v := .tup []) (H' := K) rfl ⟨rfl, rfl⟩) (Q := fun v X => v = .tup [] ∧ X = K) ?_
  rintro r K ⟨rfl, rfl⟩
  simp
  refine WC.of (Calls.prim D.p393 (v := .int .i32 0) (H' := H') (by simp only [addPrim, h0, wrap32_0, h1]) ⟨rfl, rfl⟩) (Q := fun v K => v = .int .i32 0 ∧ K = H') ?_
  rintro r K ⟨rfl, rfl⟩
  simp
  refine WC.of (Calls.prim D.p389 (v := .tup []) (H' := K) rfl ⟨rfl, rfl⟩) (Q := fun v X => v = .tup [] ∧ X = K) ?_
  rintro r K ⟨rfl, rfl⟩
  simp [RV]
/-- Unlock as a deferred call. -/
theorem c381 (D : D381 T) {H H' : AHeap} {b o : Nat} (h0 : H.ld b o 1 = some [.int .i32 1]) (h1 : H.st b o [.int .i32 0] = some H') :
    DCalls T 381 [.ptr (some (b, o))] H fun K => K = H' := by
  refine DCalls.fn D.fn ?_
  simp [ir381]
  refine WC.of (c386 D.d386 h0 h1) ?_
  rintro r K ⟨rfl, rfl⟩
  simp
end Go.Am

/- Contracts of package heap: what a number of a cell is, counts, roots. -/
set_option linter.unusedVariables false
set_option linter.unusedSimpArgs false
namespace Go.Am
variable {T : Tab}
section
variable {k : Nat} {tg tg' : Tags} {H H' : AHeap} {b : Nat} {lk : Int} {S : Hp} {fb m : Nat} {cv nv : AV} {fc fn : Option Nat} {xs : List (AV × Cel)} {ff : Nat → Option Nat}
theorem HpI.lenC (h : HpI k tg H b lk S fb m cv nv fc fn xs ff) : psem .len [cv] = some (.int .i64 S.cells.length) := by rw [h.cs.1.len, h.len]
theorem HpI.ia (h : HpI k tg H b lk S fb m cv nv fc fn xs ff) {kk : IntKind} {i : Int} (h0 : 0 ≤ i) (h1 : i < S.cells.length) : psem (.ia 5) [cv, .int kk i] = some (elt cv 5 i) := h.cs.1.ia h0 (by rw [h.len]; exact h1)
theorem HpI.lenN (h : HpI k tg H b lk S fb m cv nv fc fn xs ff) : psem .len [nv] = some (.int .i64 S.notes.length) := h.ns.1.len
/-- A cell's words. -/
theorem HpI.cell (h : HpI k tg H b lk S fb m cv nv fc fn xs ff) (hw : WF H) (hk : TagOk tg H) {i : Int} (h0 : 0 ≤ i) (h1 : i < S.cells.length) :
    ∃ bo oo, elt cv 5 i = .ptr (some (bo, oo)) ∧ rsem (.ld 1 false) [.ptr (some (bo, oo))] H = some (nth xs i).1 ∧ rsem (.ld 1 false) [.ptr (some (bo, oo + 1))] H = some (.bool (nth S.cells i).w) ∧
      rsem (.ld 1 false) [.ptr (some (bo, oo + 2))] H = some (.bool (nth S.cells i).t) ∧ rsem (.ld 1 false) [.ptr (some (bo, oo + 3))] H = some (.bool (nth S.cells i).e) ∧ rsem (.ld 1 false) [.ptr (some (bo, oo + 4))] H = some (.int .i64 (nth S.cells i).n) ∧
      rsem (.ld 5 true) [.ptr (some (bo, oo))] H = some (encC ((nth xs i).1, nth S.cells i)) ∧
      (∀ x, ∃ H', wsem0 (.st 1) [.ptr (some (bo, oo + 2)), .bool x] H = some (.undef, H') ∧ H'.next = H.next ∧ Up k tg tg H H' ∧ HpI k tg H' b lk { S with cells := S.cells.set i.toNat { nth S.cells i with t := x } } fb m cv nv fc fn (xs.set i.toNat ((nth xs i).1, { nth S.cells i with t := x })) ff) ∧
      (∀ x, ∃ H', wsem0 (.st 1) [.ptr (some (bo, oo + 3)), .bool x] H = some (.undef, H') ∧ H'.next = H.next ∧ Up k tg tg H H' ∧ HpI k tg H' b lk { S with cells := S.cells.set i.toNat { nth S.cells i with e := x } } fb m cv nv fc fn (xs.set i.toNat ((nth xs i).1, { nth S.cells i with e := x })) ff) ∧
      (∀ x, ∃ H', wsem0 (.st 1) [.ptr (some (bo, oo + 4)), .int .i64 x] H = some (.undef, H') ∧ H'.next = H.next ∧ Up k tg tg H H' ∧ HpI k tg H' b lk { S with cells := S.cells.set i.toNat { nth S.cells i with n := x } } fb m cv nv fc fn (xs.set i.toNat ((nth xs i).1, { nth S.cells i with n := x })) ff) := by
  obtain ⟨a1, a2⟩ := h.at h0 h1
  obtain ⟨bo, oo, e1, e2, e3⟩ := h.setCell hw hk h0 h1
  have l0 := e2 0 1 (by omega)
  have l1 := e2 1 1 (by omega)
  have l2 := e2 2 1 (by omega)
  have l3 := e2 3 1 (by omega)
  have l4 := e2 4 1 (by omega)
  have l5 := e2 0 5 (by omega)
  simp only [encC, AV.cells, Nat.add_zero] at l0 l1 l2 l3 l4 l5
  refine ⟨bo, oo, e1, by simp [rsem, l0], by simp [rsem, l1, a1], by simp [rsem, l2, a1], by simp [rsem, l3, a1], by simp [rsem, l4, a1], by simp [rsem, l5, a1, encC], fun x => ?_, fun x => ?_, fun x => ?_⟩
  · obtain ⟨H', r1, r2⟩ := e3 { nth S.cells i with t := x } 2 (.bool x) (by omega) (by omega) rfl rfl (by simp [encC, AV.cells, a1])
    exact ⟨H', by simp [wsem0_st, AV.cells, r1], r2⟩
  · obtain ⟨H', r1, r2⟩ := e3 { nth S.cells i with e := x } 3 (.bool x) (by omega) (by omega) rfl rfl (by simp [encC, AV.cells, a1])
    exact ⟨H', by simp [wsem0_st, AV.cells, r1], r2⟩
  · obtain ⟨H', r1, r2⟩ := e3 { nth S.cells i with n := x } 4 (.int .i64 x) (by omega) (by omega) rfl rfl (by simp [encC, AV.cells, a1])
    exact ⟨H', by simp [wsem0_st, AV.cells, r1], r2⟩
end
/-! ### What a number of a cell is -/
def hasR (S : Hp) (i : Int) (live : Bool) : Int := if i < 0 ∨ (S.cells.length : Int) ≤ i then 4 else if live = true ∧ (nth S.cells i).e = true then 9 else 0
def hasFieldR (S : Hp) (i f : Int) : Int := if hasR S i true ≠ 0 then hasR S i true else if f < 0 ∨ ((nth S.cells i).fs.length : Int) ≤ f then 1 else 0
theorem hasR_in {S : Hp} {i : Int} {live : Bool} (h : hasR S i live = 0) : 0 ≤ i ∧ i < S.cells.length ∧ (live = true → (nth S.cells i).e = false) := by
  unfold hasR at h
  split at h
  · simp at h
  · rename_i h1
    split at h
    · simp at h
    · rename_i h2
      refine ⟨by omega, by omega, fun hl => ?_⟩
      cases he : (nth S.cells i).e with
      | false => rfl
      | true => exact absurd ⟨hl, he⟩ h2
theorem hasFieldR_in {S : Hp} {i f : Int} (h : hasFieldR S i f = 0) : 0 ≤ i ∧ i < S.cells.length ∧ (nth S.cells i).e = false ∧ 0 ≤ f ∧ f < (nth S.cells i).fs.length := by
  unfold hasFieldR at h
  split at h
  · rename_i h1; exact absurd h h1
  · rename_i h1
    obtain ⟨q1, q2, q3⟩ := hasR_in (Decidable.not_not.1 h1)
    split at h
    · simp at h
    · rename_i h2; exact ⟨q1, q2, q3 rfl, by omega, by omega⟩
section
variable {k : Nat} {tg tg' : Tags} {H H' : AHeap} {b : Nat} {lk : Int} {S : Hp} {fb m : Nat} {cv nv : AV} {fc fn : Option Nat} {xs : List (AV × Cel)} {ff : Nat → Option Nat}
theorem c359 (D : D359 T) (hw : WF H) (hk : TagOk tg H) (h : HpI k tg H b lk S fb m cv nv fc fn xs ff) {i : Int} {live : Bool} : Calls T 359 [.ptr (some (b, 0)), .int .i64 i, .bool live] H fun r K => r = .int .i64 (hasR S i live) ∧ K = H := by
  refine Calls.fn D.pr D.fn ?_
  by_cases h0 : i < 0
  · have hR : hasR S i live = 4 := by unfold hasR; rw [if_pos (.inl h0)]
    simp [ir359, h0, hR]
  · by_cases h1 : (S.cells.length : Int) ≤ i
    · have hR : hasR S i live = 4 := by unfold hasR; rw [if_pos (.inr h1)]
      simp [ir359, h0, h1, h.ldc, h.lenC, hR]
    · obtain ⟨bo, oo, e1, e2, e3, e4, e5, e6, _⟩ := h.cell hw hk (i := i) (by omega) (by omega)
      have ia := h.ia (kk := .i64) (i := i) (by omega) (by omega)
      cases live with
      | false =>
        have hR : hasR S i false = 0 := by unfold hasR; rw [if_neg (by omega), if_neg (by simp)]
        simp [ir359, h0, h1, h.ldc, h.lenC, hR]
      | true =>
        cases he : (nth S.cells i).e with
        | true =>
          have hR : hasR S i true = 9 := by unfold hasR; rw [if_neg (by omega), if_pos ⟨rfl, he⟩]
          simp [ir359, h0, h1, h.ldc, h.lenC, ia, e1, e5, he, hR]
        | false =>
          have hR : hasR S i true = 0 := by unfold hasR; rw [if_neg (by omega), if_neg (by simp [he])]
          simp [ir359, h0, h1, h.ldc, h.lenC, ia, e1, e5, he, hR]
theorem HpI.fld (h : HpI k tg H b lk S fb m cv nv fc fn xs ff) {i : Int} (h0 : 0 ≤ i) (h1 : i < S.cells.length) : Sl encF 3 H (nth xs i).1 (nth S.cells i).fs := by
  obtain ⟨a1, a2⟩ := h.at h0 h1
  have := (h.fs _ _ a2).1.1
  rwa [a1] at this
theorem c373 (D : D373 T) (hw : WF H) (hk : TagOk tg H) (h : HpI k tg H b lk S fb m cv nv fc fn xs ff) {i f : Int} : Calls T 373 [.ptr (some (b, 0)), .int .i64 i, .int .i64 f] H fun r K => r = .int .i64 (hasFieldR S i f) ∧ K = H := by
  refine Calls.fn D.pr D.fn ?_
  simp [ir373]
  refine WC.of (c359 D.d359 hw hk h) ?_
  rintro r K ⟨rfl, rfl⟩
  by_cases hz : hasR S i true = 0
  · obtain ⟨q1, q2, _⟩ := hasR_in hz
    obtain ⟨bo, oo, e1, e2, _⟩ := h.cell hw hk (i := i) (by omega) (by omega)
    have ia := h.ia (kk := .i64) (i := i) (by omega) (by omega)
    have fl := (h.fld q1 q2).len
    by_cases f0 : f < 0
    · have hR : hasFieldR S i f = 1 := by unfold hasFieldR; rw [if_neg (by simp [hz]), if_pos (.inl f0)]
      simp [hz, f0, hR]
    · by_cases f1 : ((nth S.cells i).fs.length : Int) ≤ f
      · have hR : hasFieldR S i f = 1 := by unfold hasFieldR; rw [if_neg (by simp [hz]), if_pos (.inr f1)]
        simp [hz, f0, f1, hR, h.ldc, ia, e1, e2, fl]
      · have hR : hasFieldR S i f = 0 := by unfold hasFieldR; rw [if_neg (by simp [hz]), if_neg (by omega)]
        simp [hz, f0, f1, hR, h.ldc, ia, e1, e2, fl]
  · have hR : hasFieldR S i f = hasR S i true := by unfold hasFieldR; rw [if_pos hz]
    simp [hz, hR]
end
/-! ### Counts and roots -/
def setC (S : Hp) (i : Int) (c : Cel) : Hp := { S with cells := S.cells.set i.toNat c }
def lessR (S : Hp) (i : Int) : Hp :=
  let c := nth S.cells i
  let S1 := setC S i { c with n := c.n - 1 }
  if c.n - 1 = 0 then { S1 with notes := S1.notes ++ [i] } else S1
def rootR (S : Hp) (i : Int) : Hp :=
  let S1 := { S with roots := rset S.roots i (rget S.roots i + 1) }
  setC S1 i { nth S.cells i with n := (nth S.cells i).n + 1 }
def unrootR (S : Hp) (i : Int) : Hp :=
  let S1 := { S with roots := rset S.roots i (rget S.roots i - 1) }
  lessR (if rget S1.roots i = 0 then { S1 with roots := rdel S1.roots i } else S1) i
def emptyR (S : Hp) (i f : Int) : Hp :=
  let c := nth S.cells i
  let old := nth c.fs f
  let S1 := setC S i { c with fs := c.fs.set f.toNat ⟨false, false, 0⟩ }
  if old.is = true ∧ old.weak = false then lessR S1 old.to else S1
/-- Bounds that keep the sums small. -/
structure Bnd (S : Hp) : Prop where
  n : ∀ c ∈ S.cells, -(2 ^ 50) ≤ c.n ∧ c.n ≤ 2 ^ 50
  notes : S.notes.length < 2 ^ 39
theorem nth_mem {α : Type} [Inhabited α] {l : List α} {i : Int} (h0 : 0 ≤ i) (h1 : i < l.length) : nth l i ∈ l := List.mem_of_getElem? (nth_eq h0 h1)
section
variable {k : Nat} {tg tg' : Tags} {H H' : AHeap} {b : Nat} {lk : Int} {S : Hp} {fb m : Nat} {cv nv : AV} {fc fn : Option Nat} {xs : List (AV × Cel)} {ff : Nat → Option Nat}
/-- What a call on the heap leaves. -/
def To (k : Nat) (tg : Tags) (H : AHeap) (b : Nat) (lk : Int) (S' : Hp) (K : AHeap) : Prop := ∃ tg', Up k tg tg' H K ∧ HpR k tg' K b lk S'
theorem c383 (D : D383 T) (hw : WF H) (hk : TagOk tg H) (h : HpR k tg H b lk S) {i : Int} (h0 : 0 ≤ i) (h1 : i < S.cells.length) (hc : -(2 ^ 60) ≤ (nth S.cells i).n ∧ (nth S.cells i).n ≤ 2 ^ 60) (hl : S.notes.length < 2 ^ 40) :
    Calls T 383 [.ptr (some (b, 0)), .int .i64 i] H fun r K => r = .tup [] ∧ To k tg H b lk (lessR S i) K := by
  obtain ⟨fb, m, cv, nv, fc, fn, xs, ff, h⟩ := h
  refine Calls.fn D.pr D.fn ?_
  obtain ⟨bo, oo, e1, e2, e3, e4, e5, e6, _, _, _, st⟩ := h.cell hw hk h0 h1
  have ia := h.ia (kk := .i64) h0 h1
  obtain ⟨K1, r1, r2, r3, g⟩ := st ((nth S.cells i).n - 1)
  have g0 := g.ldc
  have hl1 : i < ((S.cells.set i.toNat { nth S.cells i with n := (nth S.cells i).n - 1 }).length : Nat) := by rw [List.length_set]; exact h1
  obtain ⟨bo', oo', e1', _, _, _, _, e6', _⟩ := g.cell r3.wf r3.ok h0 hl1
  have hn : nth (S.cells.set i.toNat { nth S.cells i with n := (nth S.cells i).n - 1 }) i = { nth S.cells i with n := (nth S.cells i).n - 1 } := by rw [nth_set h0 h1 h0, if_pos rfl]
  rw [e1] at e1'
  simp only [AV.ptr.injEq, Option.some.injEq, Prod.mk.injEq] at e1'
  obtain ⟨rfl, rfl⟩ := e1'
  rw [hn] at e6'
  simp (disch := omega) [ir383, h.ldc, ia, e1, e6, wrap64, r1, g0, e6']
  by_cases hz : (nth S.cells i).n - 1 = 0
  · have hb := wsem0_bsl1 (v := .int .i64 i) (z := .int .i64 0) (H := K1) rfl
    obtain ⟨v', K2, K3, tg', f', q1, q2, q3, q4, q5⟩ := g.pushNote r3.wf r3.ok i hl
    have q6 : wsem0 (.st 1) [.ptr (some (b, 4)), v'] K2 = some (.undef, K3) := by
      have hv : v'.cells = [v'] := by cases v' <;> simp_all [AV.cells, AV.cell]
      simp [wsem0_st, hv, q3]
    simp [hz, g.ldn, hb, q1, q6]
    refine ⟨tg', r3.trans hw q4, ?_⟩
    have : lessR S i = { cells := S.cells.set i.toNat { nth S.cells i with n := (nth S.cells i).n - 1 }, roots := S.roots, notes := S.notes ++ [i] } := by
      unfold lessR; simp only [hz, if_true]; simp [setC, hz]
    rw [this]
    exact ⟨_, _, _, _, _, _, _, _, q5⟩
  · simp [hz]
    refine ⟨tg, r3, ?_⟩
    have : lessR S i = { cells := S.cells.set i.toNat { nth S.cells i with n := (nth S.cells i).n - 1 }, roots := S.roots, notes := S.notes } := by
      unfold lessR; rw [if_neg hz]; rfl
    rw [this]
    exact ⟨_, _, _, _, _, _, _, _, g⟩
end
end Go.Am

/- Contracts of package heap: roots, fields that are made empty. -/
set_option linter.unusedVariables false
set_option linter.unusedSimpArgs false
namespace Go.Am
variable {T : Tab}
section
variable {k : Nat} {tg tg' : Tags} {H H' : AHeap} {b : Nat} {lk : Int} {S : Hp} {fb m : Nat} {cv nv : AV} {fc fn : Option Nat} {xs : List (AV × Cel)} {ff : Nat → Option Nat}
theorem To.from_ {tg1 : Tags} {H1 : AHeap} (hw : WF H) (hu : Up k tg tg1 H H1) {K : AHeap} (h : To k tg1 H1 b lk S K) : To k tg H b lk S K := by
  obtain ⟨tg', h1, h2⟩ := h
  exact ⟨tg', hu.trans hw h1, h2⟩
theorem c360 (D : D360 T) (hw : WF H) (hk : TagOk tg H) (h : HpR k tg H b lk S) {i : Int} (h0 : 0 ≤ i) (h1 : i < S.cells.length) (hc : -(2 ^ 60) ≤ (nth S.cells i).n ∧ (nth S.cells i).n ≤ 2 ^ 60) (hr : -(2 ^ 60) ≤ rget S.roots i ∧ rget S.roots i ≤ 2 ^ 60) :
    Calls T 360 [.ptr (some (b, 0)), .int .i64 i] H fun r K => r = .tup [] ∧ To k tg H b lk (rootR S i) K := by
  obtain ⟨fb, m, cv, nv, fc, fn, xs, ff, h⟩ := h
  refine Calls.fn D.pr D.fn ?_
  obtain ⟨K1, r1, r2, r3, g⟩ := h.setRoot hw hk i (rget S.roots i + 1)
  obtain ⟨bo, oo, e1, e2, e3, e4, e5, e6, _, _, _, st⟩ := g.cell r3.wf r3.ok h0 h1
  have ia := g.ia (kk := .i64) h0 h1
  obtain ⟨K2, q1, q2, q3, g2⟩ := st ((nth S.cells i).n + 1)
  simp (disch := omega) [ir360, h.ldm, h.look, wrap64, r1, g.ldc, ia, e1, e6, q1]
  exact ⟨tg, r3.trans hw q3, _, _, _, _, _, _, _, _, g2⟩
theorem c361 (D : D361 T) (hw : WF H) (hk : TagOk tg H) (h : HpR k tg H b lk S) {i : Int} (h0 : 0 ≤ i) (h1 : i < S.cells.length) (hc : -(2 ^ 60) ≤ (nth S.cells i).n ∧ (nth S.cells i).n ≤ 2 ^ 60) (hr : -(2 ^ 60) ≤ rget S.roots i ∧ rget S.roots i ≤ 2 ^ 60) (hl : S.notes.length < 2 ^ 40) :
    Calls T 361 [.ptr (some (b, 0)), .int .i64 i] H fun r K => r = .tup [] ∧ To k tg H b lk (unrootR S i) K := by
  obtain ⟨fb, m, cv, nv, fc, fn, xs, ff, h⟩ := h
  refine Calls.fn D.pr D.fn ?_
  obtain ⟨K1, r1, r2, r3, g⟩ := h.setRoot hw hk i (rget S.roots i - 1)
  have lk := g.look i
  simp (disch := omega) [ir361, h.ldm, h.look, wrap64, r1, g.ldm, lk]
  by_cases hz : rget (rset S.roots i (rget S.roots i - 1)) i = 0
  · obtain ⟨K2, q1, q2, q3, g2⟩ := g.delRoot r3.wf r3.ok i
    simp [hz, g.ldm, q1]
    refine WC.of (c383 D.d383 q3.wf q3.ok ⟨_, _, _, _, _, _, _, _, g2⟩ (i := i) h0 h1 hc hl) ?_
    rintro r K ⟨rfl, t⟩
    simp
    have := t.from_ r3.wf q3
    have := this.from_ hw r3
    unfold unrootR
    simp only [hz, if_true]
    exact this
  · simp [hz]
    refine WC.of (c383 D.d383 r3.wf r3.ok ⟨_, _, _, _, _, _, _, _, g⟩ (i := i) h0 h1 hc hl) ?_
    rintro r K ⟨rfl, t⟩
    simp
    have := t.from_ hw r3
    unfold unrootR
    simp only [hz, if_false]
    exact this
theorem c374 (D : D374 T) (hw : WF H) (hk : TagOk tg H) (h : HpR k tg H b lk S) {i f : Int} (h0 : 0 ≤ i) (h1 : i < S.cells.length) (f0 : 0 ≤ f) (f1 : f < (nth S.cells i).fs.length)
    (hto : (nth (nth S.cells i).fs f).is = true → (nth (nth S.cells i).fs f).weak = false → 0 ≤ (nth (nth S.cells i).fs f).to ∧ (nth (nth S.cells i).fs f).to < S.cells.length) (hb : Bnd S) :
    Calls T 374 [.ptr (some (b, 0)), .int .i64 i, .int .i64 f] H fun r K => r = .tup [] ∧ To k tg H b lk (emptyR S i f) K := by
  refine Calls.fn D.pr D.fn ?_
  obtain ⟨fb, m, cv, nv, fc, fn, xs, ff, h⟩ := h
  obtain ⟨x, hx⟩ : ∃ x, nth (nth S.cells i).fs f = x := ⟨_, rfl⟩
  obtain ⟨bo, oo, e1, e2, _⟩ := h.cell hw hk h0 h1
  have ia := h.ia (kk := .i64) h0 h1
  obtain ⟨b2, o2, p1, p2, _⟩ := h.setField hw hk h0 h1 f0 f1
  have ia2 := (h.fld h0 h1).ia (k := .i64) f0 f1
  have ld2 : rsem (.ld 3 true) [.ptr (some (b2, o2))] H = some (encF x) := by rw [hx] at p2; simp [rsem, p2, encF, AV.cells]
  -- the box
  have fr1 := hw.fr_new (cs := [.bool false, .bool false, .int .i64 0])
  have bx := Box.new (H := H) (cs := [.bool false, .bool false, .int .i64 0])
  obtain ⟨K1, s1, s2, s3, s4, s5⟩ := bx.stA fr1.wf (n := 3) (ds := (encF x).cells) (by simp) (by simp [encF, AV.cells]) (by simp [encF, AV.cells, AV.cell])
  have s1' : wsem0 (.st 3) [.ptr (some (H.next, 0)), encF x] (H.new [.bool false, .bool false, .int .i64 0]) = some (.undef, K1) := by simpa [encF, AV.cells] using s1
  have fr : Fr H K1 := fr1.step s2 s4 fun g hg => by subst hg; exact Nat.le_refl _
  have up1 : Up k tg tg H K1 := Up.fr hw hk fr
  have g : HpI k tg K1 b lk S fb m cv nv fc fn xs ff := h.keeps hw fr.keeps fun g t hg ht => ⟨by omega, ht⟩
  obtain ⟨bo', oo', e1', e2', _⟩ := g.cell up1.wf up1.ok h0 h1
  obtain ⟨b3, o3, p1', _, st⟩ := g.setField up1.wf up1.ok h0 h1 f0 f1
  obtain ⟨K2, q1, q2, q3, g2⟩ := st ⟨false, false, 0⟩
  have q1' : wsem0 (.st 3) [.ptr (some (b3, o3)), .agg [.bool false, .bool false, .int .i64 0]] K1 = some (.undef, K2) := by simp only [encF, AV.cells] at q1; simp [wsem0_st, AV.cells, q1]
  have bx2 : Box K2 H.next H.next (encF x).cells := s3.keeps up1.wf q3.keeps (by
    rintro ⟨t, ht⟩
    rw [hk _ (Nat.le_refl _)] at ht; cases ht)
  have l0 : rsem (.ld 1 false) [.ptr (some (H.next, 0))] K2 = some (.bool x.is) := by simp [rsem, AHeap.ld, bx2.row, encF, AV.cells]
  have l1 : rsem (.ld 1 false) [.ptr (some (H.next, 1))] K2 = some (.bool x.weak) := by simp [rsem, AHeap.ld, bx2.row, encF, AV.cells]
  have l2 : rsem (.ld 1 false) [.ptr (some (H.next, 2))] K2 = some (.int .i64 x.to) := by simp [rsem, AHeap.ld, bx2.row, encF, AV.cells]
  have ia3 := g.ia (kk := .i64) h0 h1
  have ia4 := (g.fld h0 h1).ia (k := .i64) f0 f1
  simp [ir374, h.ldc, ia, e1, e2, ia2, p1, ld2]
  simp [AV.cells, AV.cell, s1', g.ldc, ia3, e1', e2', ia4, p1', psem_bld', fill, q1', l0, l1, l2]
  have up2 : Up k tg tg H K2 := up1.trans hw q3
  have hS : emptyR S i f = if x.is = true ∧ x.weak = false then lessR (setC S i { nth S.cells i with fs := (nth S.cells i).fs.set f.toNat ⟨false, false, 0⟩ }) x.to else setC S i { nth S.cells i with fs := (nth S.cells i).fs.set f.toNat ⟨false, false, 0⟩ } := by
    unfold emptyR; simp only [hx]
  have g3 : HpR k tg K2 b lk (setC S i { nth S.cells i with fs := (nth S.cells i).fs.set f.toNat ⟨false, false, 0⟩ }) := ⟨_, _, _, _, _, _, _, _, g2⟩
  cases his : x.is with
  | false =>
    simp [his]
    rw [hS, if_neg (by simp [his])]
    exact ⟨tg, up2, g3⟩
  | true =>
    cases hwk : x.weak with
    | true =>
      simp [his, hwk, l1, l2]
      rw [hS, if_neg (by simp [hwk])]
      exact ⟨tg, up2, g3⟩
    | false =>
      simp [his, hwk, l1, l2]
      rw [hx] at hto
      obtain ⟨t0, t1⟩ := hto his hwk
      rw [hS, if_pos ⟨his, hwk⟩]
      have hcn : (nth (setC S i { nth S.cells i with fs := (nth S.cells i).fs.set f.toNat ⟨false, false, 0⟩ }).cells x.to).n = (nth S.cells x.to).n := by
        simp only [setC]
        rw [nth_set h0 h1 t0]
        split
        · rename_i e; subst e; rfl
        · rfl
      have hbn := hb.n _ (nth_mem t0 t1)
      refine WC.of (c383 D.d383 q3.wf q3.ok g3 (i := x.to) t0 (by simpa [setC] using t1) (by rw [hcn]; omega) (by have := hb.notes; simp only [setC]; omega)) ?_
      rintro r K ⟨rfl, t⟩
      simp
      exact t.from_ hw up2
end
end Go.Am

/- Contracts of package heap: a cell that ends. -/
set_option linter.unusedVariables false
set_option linter.unusedSimpArgs false
namespace Go.Am
variable {T : Tab}
/-- The first ones changed. -/
def stg {α : Type} (g : α → α) (l : List α) (i : Nat) : List α := (l.take i).map g ++ l.drop i
section
variable {α : Type} {g : α → α} {l : List α} {i : Nat}
@[simp] theorem stg_zero : stg g l 0 = l := by simp [stg]
theorem stg_len : (stg g l i).length = l.length := by simp [stg]; omega
theorem stg_all (h : l.length ≤ i) : stg g l i = l.map g := by simp [stg, List.take_of_length_le h, List.drop_eq_nil_of_le h]
variable [Inhabited α]
theorem stg_nth (h : i < l.length) : nth (stg g l i) (i : Int) = nth l (i : Int) := by
  have hl : ((l.take i).map g).length = i := by simp; omega
  unfold nth stg
  rw [List.getD_eq_getElem?_getD, List.getD_eq_getElem?_getD, List.getElem?_append_right (by simp; omega), hl]
  simp
theorem stg_set (h : i < l.length) : (stg g l i).set i (g (nth l (i : Int))) = stg g l (i + 1) := by
  have hl : ((l.take i).map g).length = i := by simp; omega
  unfold stg
  rw [List.set_append_right _ _ (by omega), hl, Nat.sub_self, take_nth h, List.map_append, List.append_assoc]
  congr 1
  rw [List.drop_eq_getElem_cons h]
  simp only [List.set_cons_zero, List.map_cons, List.map_nil, List.cons_append, List.nil_append]
end
def clr (a : Int) (x : Fld) : Fld := if x.is = true ∧ x.weak = true ∧ x.to = a then ⟨false, false, 0⟩ else x
def clrC (a : Int) (c : Cel) : Cel := { c with fs := c.fs.map (clr a) }
def weakR (S : Hp) (a : Int) : Hp := { S with cells := S.cells.map (clrC a) }
def emptiesR (S : Hp) (a : Int) : Nat → Hp
  | 0 => S
  | n + 1 => emptyR (emptiesR S a n) a n
def endR (S : Hp) (a : Int) : Hp :=
  let S1 := weakR (setC S a { nth S.cells a with e := true }) a
  emptiesR S1 a (nth S1.cells a).fs.length
section
variable {k : Nat} {tg tg' : Tags} {H H' : AHeap} {b : Nat} {lk : Int} {S : Hp} {fb m : Nat} {cv nv : AV} {fc fn : Option Nat} {xs : List (AV × Cel)} {ff : Nat → Option Nat}
/-- What holds while fields are cleared. -/
def Mid (k : Nat) (tg : Tags) (H : AHeap) (b : Nat) (lk : Int) (S : Hp) (fb m : Nat) (cv nv : AV) (fc fn : Option Nat) (vs : List AV) (ff : Nat → Option Nat) (K : AHeap) (cs : List Cel) : Prop :=
  ∃ xs, Up k tg tg H K ∧ HpI k tg K b lk { S with cells := cs } fb m cv nv fc fn xs ff ∧ xs.map (·.1) = vs
theorem nth_map1 {xs : List (AV × Cel)} {vs : List AV} (h : xs.map (·.1) = vs) {i : Int} (h0 : 0 ≤ i) (h1 : i < xs.length) : (nth xs i).1 = nth vs i := by
  have e1 := nth_eq (l := xs) h0 h1
  have e2 := nth_eq (l := vs) h0 (by rw [← h]; simpa using h1)
  rw [← h, List.getElem?_map, e1] at e2
  simpa [← h] using e2
/-- One field of one cell is looked at, and cleared or not. -/
theorem Mid.field {vs : List AV} {K : AHeap} {cs : List Cel} (hw : WF H) (h : Mid k tg H b lk S fb m cv nv fc fn vs ff K cs) {i j : Nat} (h1 : i < cs.length) (j1 : j < (nth cs (i : Int)).fs.length) :
    rsem (.ld 1 false) [.ptr (some (b, 2))] K = some cv ∧ (∀ kk, psem (.ia 5) [cv, .int kk i] = some (elt cv 5 i)) ∧ (∀ kk, psem (.ia 3) [nth vs (i : Int), .int kk j] = some (elt (nth vs (i : Int)) 3 j)) ∧
    ∃ bo oo b2 o2 K1, elt cv 5 i = .ptr (some (bo, oo)) ∧ elt (nth vs (i : Int)) 3 j = .ptr (some (b2, o2)) ∧ rsem (.ld 1 false) [.ptr (some (bo, oo))] K = some (nth vs (i : Int)) ∧
      rsem (.ld 3 true) [.ptr (some (b2, o2))] K = some (encF (nth (nth cs (i : Int)).fs (j : Int))) ∧
      wsem0 (.st 3) [.ptr (some (K.next, 0)), encF (nth (nth cs (i : Int)).fs (j : Int))] (K.new [.bool false, .bool false, .int .i64 0]) = some (.undef, K1) ∧
      rsem (.ld 1 false) [.ptr (some (K.next, 0))] K1 = some (.bool (nth (nth cs (i : Int)).fs (j : Int)).is) ∧
      rsem (.ld 1 false) [.ptr (some (K.next, 1))] K1 = some (.bool (nth (nth cs (i : Int)).fs (j : Int)).weak) ∧
      rsem (.ld 1 false) [.ptr (some (K.next, 2))] K1 = some (.int .i64 (nth (nth cs (i : Int)).fs (j : Int)).to) ∧
      Mid k tg H b lk S fb m cv nv fc fn vs ff K1 cs ∧ rsem (.ld 1 false) [.ptr (some (b, 2))] K1 = some cv ∧ rsem (.ld 1 false) [.ptr (some (bo, oo))] K1 = some (nth vs (i : Int)) ∧
      ∃ K2, wsem0 (.st 3) [.ptr (some (b2, o2)), .agg [.bool false, .bool false, .int .i64 0]] K1 = some (.undef, K2) ∧
        Mid k tg H b lk S fb m cv nv fc fn vs ff K2 (cs.set i { nth cs (i : Int) with fs := (nth cs (i : Int)).fs.set j ⟨false, false, 0⟩ }) := by
  obtain ⟨xs, u, h, hv⟩ := h
  have hl := h.len
  have h1' : (i : Int) < ({ S with cells := cs } : Hp).cells.length := by simpa using h1
  have j1' : (j : Int) < (nth ({ S with cells := cs } : Hp).cells (i : Int)).fs.length := by simpa using j1
  have ev : (nth xs (i : Int)).1 = nth vs (i : Int) := nth_map1 hv (by omega) (by rw [hl]; simpa using h1)
  obtain ⟨bo, oo, e1, e2, _⟩ := h.cell u.wf u.ok (by omega) h1'
  obtain ⟨b2, o2, p1, p2, _⟩ := h.setField u.wf u.ok (by omega) h1' (by omega) j1'
  obtain ⟨x, hx⟩ : ∃ x, nth (nth cs (i : Int)).fs (j : Int) = x := ⟨_, rfl⟩
  have ld2 : rsem (.ld 3 true) [.ptr (some (b2, o2))] K = some (encF x) := by simp only [hx] at p2; simp [rsem, p2, encF, AV.cells]
  have ia2 := (h.fld (by omega) h1').ia (k := .i64) (by omega) j1'
  have fr1 := u.wf.fr_new (cs := [.bool false, .bool false, .int .i64 0])
  have bx := Box.new (H := K) (cs := [.bool false, .bool false, .int .i64 0])
  obtain ⟨K1, s1, s2, s3, s4, s5⟩ := bx.stA fr1.wf (n := 3) (ds := (encF x).cells) (by simp) (by simp [encF, AV.cells]) (by simp [encF, AV.cells, AV.cell])
  have s1' : wsem0 (.st 3) [.ptr (some (K.next, 0)), encF x] (K.new [.bool false, .bool false, .int .i64 0]) = some (.undef, K1) := by simpa [encF, AV.cells] using s1
  have fr : Fr K K1 := fr1.step s2 s4 fun g hg => by subst hg; exact Nat.le_refl _
  have up1 : Up k tg tg K K1 := Up.fr u.wf u.ok fr
  have g := h.keeps u.wf fr.keeps (tg' := tg) fun g t hg ht => ⟨by omega, ht⟩
  obtain ⟨bo', oo', e1', e2', _⟩ := g.cell up1.wf up1.ok (by omega) h1'
  obtain ⟨b3, o3, p1', _, st⟩ := g.setField up1.wf up1.ok (by omega) h1' (by omega) j1'
  rw [e1] at e1'
  simp only [AV.ptr.injEq, Option.some.injEq, Prod.mk.injEq] at e1'
  obtain ⟨rfl, rfl⟩ := e1'
  rw [p1] at p1'
  simp only [AV.ptr.injEq, Option.some.injEq, Prod.mk.injEq] at p1'
  obtain ⟨rfl, rfl⟩ := p1'
  obtain ⟨K2, q1, q2, q3, g2⟩ := st ⟨false, false, 0⟩
  rw [ev] at p1 e2 e2' ia2
  refine ⟨h.ldc, fun kk => h.ia (by omega) h1', fun kk => ?_, bo, oo, b2, o2, K1, e1, p1, e2, by rw [hx]; exact ld2, by rw [hx]; exact s1', ?_, ?_, ?_, ⟨xs, u.trans hw up1, g, hv⟩, g.ldc, e2', K2, ?_, _, u.trans hw (up1.trans u.wf q3), by simpa using g2, ?_⟩
  · have := (h.fld (by omega) h1').ia (k := kk) (i := (j : Int)) (by omega) j1'
    rwa [ev] at this
  · simp [rsem, AHeap.ld, s3.row, encF, AV.cells, hx]
  · simp [rsem, AHeap.ld, s3.row, encF, AV.cells, hx]
  · simp [rsem, AHeap.ld, s3.row, encF, AV.cells, hx]
  · simp only [encF, AV.cells] at q1; simp [wsem0_st, AV.cells, q1]
  · rw [List.map_set, ← hv]
    apply List.ext_getElem?
    intro z
    rw [List.getElem?_set]
    split
    · rename_i e
      subst e
      split
      · have := nth_eq (l := xs) (i := (i : Int)) (by omega) (by rw [hl]; simpa using h1)
        have this : xs[i]? = some (nth xs (i : Int)) := this
        rw [List.getElem?_map, this]; rfl
      · rename_i hh
        rw [List.length_map, hl] at hh
        exact absurd h1 hh
    · rfl
theorem fs_stage {c : Cel} {j : Nat} (a : Int) (hj : j < c.fs.length) :
    ({ c with fs := (stg (clr a) c.fs j).set j (clr a (nth c.fs (j : Int))) } : Cel) = { c with fs := stg (clr a) c.fs (j + 1) } := by
  rw [stg_set hj]
theorem Mid.same {vs : List AV} {K : AHeap} {cs cs' : List Cel} (h : Mid k tg H b lk S fb m cv nv fc fn vs ff K cs) (e : cs = cs') : Mid k tg H b lk S fb m cv nv fc fn vs ff K cs' := by rw [← e]; exact h
theorem set_set {α : Type} (l : List α) (i : Nat) (x y : α) : (l.set i x).set i y = l.set i y := by simp
theorem c382 (D : D382 T) (hw : WF H) (hk : TagOk tg H) (h : HpR k tg H b lk S) {a : Int} (h0 : 0 ≤ a) (h1 : a < S.cells.length) (hcl : S.cells.length < 2 ^ 40) (hfl : ∀ c ∈ S.cells, c.fs.length < 2 ^ 40)
    (hE : ∀ n, n < (nth S.cells a).fs.length → ∀ K tg, WF K → TagOk tg K → HpR k tg K b lk (emptiesR (weakR (setC S a { nth S.cells a with e := true }) a) a n) →
      Calls T 374 [.ptr (some (b, 0)), .int .i64 a, .int .i64 n] K fun r K' => r = .tup [] ∧ To k tg K b lk (emptiesR (weakR (setC S a { nth S.cells a with e := true }) a) a (n + 1)) K') :
    Calls T 382 [.ptr (some (b, 0)), .int .i64 a] H fun r K => r = .tup [] ∧ To k tg H b lk (endR S a) K := by
  refine Calls.fn D.pr D.fn ?_
  obtain ⟨fb, m, cv, nv, fc, fn, xs, ff, h⟩ := h
  obtain ⟨bo, oo, e1, _, _, _, _, _, _, _, st, _⟩ := h.cell hw hk h0 h1
  have ia := h.ia (kk := .i64) h0 h1
  obtain ⟨K1, r1, r2, r3, g⟩ := st true
  have hS1 : (setC S a { nth S.cells a with e := true }).cells.length = S.cells.length := by simp [setC]
  have hfa : ∀ c ∈ (setC S a { nth S.cells a with e := true }).cells, c.fs.length < 2 ^ 40 := by
    intro c hc
    simp only [setC] at hc
    rcases List.mem_or_eq_of_mem_set hc with hc | rfl
    · exact hfl c hc
    · exact hfl (nth S.cells a) (nth_mem h0 h1)
  have g' : HpI k tg K1 b lk (setC S a { nth S.cells a with e := true }) fb m cv nv fc fn (xs.set a.toNat ((nth xs a).1, { nth S.cells a with e := true })) ff := g
  have hn1 : (nth (weakR (setC S a { nth S.cells a with e := true }) a).cells a).fs.length = (nth S.cells a).fs.length := by
    have e1 := nth_eq (l := (weakR (setC S a { nth S.cells a with e := true }) a).cells) (i := a) h0 (by simp [weakR, setC]; omega)
    simp only [weakR, setC, List.getElem?_map, List.getElem?_set, if_true] at e1
    rw [if_pos (by omega)] at e1
    simp only [Option.map_some, Option.some.injEq] at e1
    simp only [weakR, setC]
    rw [← e1]
    simp [clrC]
  obtain ⟨S1, hS⟩ : ∃ S1, setC S a { nth S.cells a with e := true } = S1 := ⟨_, rfl⟩
  have hend : endR S a = emptiesR (weakR S1 a) a (nth S.cells a).fs.length := by unfold endR; simp only [hS]; rw [← hn1]; simp only [hS]
  rw [hS] at hS1 hfa g' hE hn1
  rw [hend]
  obtain ⟨xs1, hxs⟩ : ∃ xs1, xs.set a.toNat ((nth xs a).1, { nth S.cells a with e := true }) = xs1 := ⟨_, rfl⟩
  rw [hxs] at g'
  clear g hxs hend
  have hcl1 : (S1.cells.length : Int) < 2 ^ 40 := by rw [hS1]; exact_mod_cast hcl
  simp (disch := omega) [ir382, h.ldc, ia, e1, r1, g'.ldc, g'.lenC]
  refine W_loop (fun (i : Nat) e K => e 0 = .ptr (some (b, 0)) ∧ e 1 = .int .i64 a ∧ e 19 = .int .i64 S1.cells.length ∧ ∃ j : Nat, i + j = S1.cells.length ∧ e 20 = .int .i64 j ∧ Mid k tg K1 b lk S1 fb m cv nv fc fn (xs1.map (·.1)) ff K (stg (clrC a) S1.cells j)) id S1.cells.length ?_ ?_
  · refine ⟨by simp, by simp, by simp, 0, by simp, by simp, ?_⟩
    rw [stg_zero]
    exact ⟨xs1, Up.refl r3.wf r3.ok, g', rfl⟩
  · rintro i e K ⟨x0, x1, x19, j, hj, x20, mid⟩
    simp [x19, x20]
    refine WB.bool ?_ ?_
    · intro hlt
      simp at hlt
      have hjl : j < (stg (clrC a) S1.cells j).length := by rw [stg_len]; exact hlt
      have hnth := stg_nth (g := clrC a) hlt
      have hmem : nth S1.cells (j : Int) ∈ S1.cells := nth_mem (by omega) (by omega)
      have hfsl := hfa _ hmem
      obtain ⟨ys, mu, mg, mv⟩ := mid
      have hjl' : (j : Int) < ({ S1 with cells := stg (clrC a) S1.cells j } : Hp).cells.length := by simpa using hjl
      obtain ⟨bo', oo', f1, f2, _⟩ := mg.cell mu.wf mu.ok (by omega) hjl'
      have ia' := mg.ia (kk := .i64) (i := (j : Int)) (by omega) hjl'
      have ev : (nth ys (j : Int)).1 = nth (xs1.map (·.1)) (j : Int) := nth_map1 mv (by omega) (by rw [mg.len]; simpa using hjl)
      have fl := (mg.fld (by omega) hjl').len
      simp only [hnth] at fl
      rw [ev] at f2 fl
      have mid : Mid k tg K1 b lk S1 fb m cv nv fc fn (xs1.map (·.1)) ff K (stg (clrC a) S1.cells j) := ⟨ys, mu, mg, mv⟩
      obtain ⟨fv, hfv⟩ : ∃ fv, nth (xs1.map (·.1)) (j : Int) = fv := ⟨_, rfl⟩
      rw [hfv] at f2 fl
      simp [x0, x1, x19, x20, mg.ldc, ia', f1, f2, fl]
      refine W_loop (fun (z : Nat) e X => e 0 = .ptr (some (b, 0)) ∧ e 1 = .int .i64 a ∧ e 19 = .int .i64 S1.cells.length ∧ e 20 = .int .i64 j ∧ e 4 = .int .i64 j ∧ e 30 = fv ∧ e 31 = .int .i64 (nth S1.cells (j : Int)).fs.length ∧
        ∃ q : Nat, z + q = (nth S1.cells (j : Int)).fs.length ∧ e 32 = .int .i64 q ∧ Mid k tg K1 b lk S1 fb m cv nv fc fn (xs1.map (·.1)) ff X ((stg (clrC a) S1.cells j).set j { nth S1.cells (j : Int) with fs := stg (clr a) (nth S1.cells (j : Int)).fs q })) id (nth S1.cells (j : Int)).fs.length ?_ ?_
      · refine ⟨by simp [x0], by simp [x1], by simp [x19], by simp [x20], by simp [x20], by simp, by simp, 0, by simp, by simp, mid.same ?_⟩
        rw [stg_zero]
        refine (setSame ?_).symm
        have := nth_eq (l := stg (clrC a) S1.cells j) (i := (j : Int)) (by omega) (by exact_mod_cast hjl)
        rw [hnth] at this
        simpa using this
      · rintro z e X ⟨x0, x1, x19, x20, x4, x30, x31, q, hq, x32, mid⟩
        simp [x31, x32]
        refine WB.bool ?_ ?_
        · intro hlt2
          simp at hlt2
          obtain ⟨cs, hcs⟩ : ∃ cs, (stg (clrC a) S1.cells j).set j { nth S1.cells (j : Int) with fs := stg (clr a) (nth S1.cells (j : Int)).fs q } = cs := ⟨_, rfl⟩
          have hc : nth cs (j : Int) = { nth S1.cells (j : Int) with fs := stg (clr a) (nth S1.cells (j : Int)).fs q } := by
            rw [← hcs]
            have := nth_set (l := stg (clrC a) S1.cells j) (i := (j : Int)) (j := (j : Int)) (x := { nth S1.cells (j : Int) with fs := stg (clr a) (nth S1.cells (j : Int)).fs q }) (by omega) (by exact_mod_cast hjl) (by omega)
            simpa using this
          have hcsl : j < cs.length := by rw [← hcs]; simpa using hjl
          have hfq : q < (nth cs (j : Int)).fs.length := by rw [hc]; simp only [stg_len]; exact hlt2
          rw [hcs] at mid
          obtain ⟨l1, ia1, ia2, bo2, oo2, b3, o3, X1, p1, p2, p3, p4, p5, p6, p7, p8, p9, p10, p11, X2, p12, p13⟩ := mid.field r3.wf hcsl hfq
          rw [hfv] at ia2 p2 p3 p11
          have hx : nth (nth cs (j : Int)).fs (q : Int) = nth (nth S1.cells (j : Int)).fs (q : Int) := by rw [hc]; exact stg_nth hlt2
          rw [hx] at p4 p5 p6 p7 p8
          obtain ⟨x, hxx⟩ : ∃ x, nth (nth S1.cells (j : Int)).fs (q : Int) = x := ⟨_, rfl⟩
          rw [hxx] at p4 p5 p6 p7 p8
          have next : ∀ Y, Mid k tg K1 b lk S1 fb m cv nv fc fn (xs1.map (·.1)) ff Y (cs.set j { nth cs (j : Int) with fs := (nth cs (j : Int)).fs.set q (clr a x) }) → Mid k tg K1 b lk S1 fb m cv nv fc fn (xs1.map (·.1)) ff Y ((stg (clrC a) S1.cells j).set j { nth S1.cells (j : Int) with fs := stg (clr a) (nth S1.cells (j : Int)).fs (q + 1) }) := by
            intro Y hY
            refine hY.same ?_
            rw [hc, ← hcs, set_set, ← hxx]
            simp only
            rw [fs_stage a hlt2]
          have same : clr a x = x → cs.set j { nth cs (j : Int) with fs := (nth cs (j : Int)).fs.set q (clr a x) } = cs := by
            intro e
            refine setSame ?_
            have e1 := nth_eq (l := cs) (i := (j : Int)) (by omega) (by exact_mod_cast hcsl)
            simp only [Int.toNat_natCast] at e1
            rw [e1, e]
            have e2 := nth_eq (l := (nth cs (j : Int)).fs) (i := (q : Int)) (by omega) (by exact_mod_cast hfq)
            simp only [Int.toNat_natCast, hx, hxx] at e2
            rw [setSame e2]
          simp [x0, x1, x4, x20, x30, x31, x32, ia2, p2, p4, AV.cells, AV.cell, p5, p6]
          cases his : x.is with
          | false =>
            have hcl : clr a x = x := by unfold clr; rw [if_neg (by simp [his])]
            have nx := next X1 (by rw [same hcl]; exact p9)
            simp (disch := omega) [x32, wrap64]
            exact ⟨z - 1, by omega, x0, x1, x19, x20, x4, x30, x31, q + 1, by omega, by simp, nx⟩
          | true =>
            simp [his, p7]
            cases hwk : x.weak with
            | false =>
              have hcl : clr a x = x := by unfold clr; rw [if_neg (by simp [hwk])]
              have nx := next X1 (by rw [same hcl]; exact p9)
              simp (disch := omega) [x32, wrap64]
              exact ⟨z - 1, by omega, x0, x1, x19, x20, x4, x30, x31, q + 1, by omega, by simp, nx⟩
            | true =>
              simp [p8, x1]
              refine WB.bool ?_ ?_
              · intro hto
                simp at hto
                have hcl : clr a x = ⟨false, false, 0⟩ := by unfold clr; rw [if_pos ⟨his, hwk, hto⟩]
                have nx := next X2 (by rw [hcl]; exact p13)
                simp (disch := omega) [x0, x4, p10, ia1, p1, p11, ia2, p2, psem_bld', fill, p12, x32, wrap64]
                exact ⟨z - 1, by omega, x1, x19, x20, x30, x31, q + 1, by omega, by simp, nx⟩
              · intro hto
                simp at hto
                have hcl : clr a x = x := by unfold clr; rw [if_neg (by simp [hto])]
                have nx := next X1 (by rw [same hcl]; exact p9)
                simp (disch := omega) [x32, wrap64]
                exact ⟨z - 1, by omega, x0, x1, x19, x20, x4, x30, x31, q + 1, by omega, by simp, nx⟩
        · intro hge
          simp at hge
          have nx := mid.same (cs' := stg (clrC a) S1.cells (j + 1)) (by
            rw [stg_all hge]
            exact stg_set hlt)
          simp (disch := omega) [x20, wrap64]
          exact ⟨i - 1, by omega, x0, x1, x19, j + 1, by omega, by simp, nx⟩
    · intro hge
      simp at hge
      obtain ⟨ys, mu, mg, mv⟩ := mid
      rw [stg_all (by omega)] at mg
      have hS2 : ({ S1 with cells := S1.cells.map (clrC a) } : Hp) = weakR S1 a := rfl
      rw [hS2] at mg
      have h1' : a < (weakR S1 a).cells.length := by simp [weakR]; omega
      obtain ⟨bo', oo', f1, f2, _⟩ := mg.cell mu.wf mu.ok h0 h1'
      have ia' := mg.ia (kk := .i64) h0 h1'
      have fl := (mg.fld h0 h1').len
      rw [hn1] at fl
      simp [x0, x1, mg.ldc, ia', f1, f2, fl]
      have hfl2 := hfl _ (nth_mem h0 h1)
      refine W_loop (fun (z : Nat) e X => e 0 = .ptr (some (b, 0)) ∧ e 1 = .int .i64 a ∧ e 70 = .int .i64 (nth S.cells a).fs.length ∧ ∃ q : Nat, z + q = (nth S.cells a).fs.length ∧ e 71 = .int .i64 q ∧ ∃ tg', Up k tg tg' H X ∧ HpR k tg' X b lk (emptiesR (weakR S1 a) a q)) id (nth S.cells a).fs.length ?_ ?_
      · exact ⟨by simp [x0], by simp [x1], by simp, 0, by simp, by simp, tg, r3.trans hw mu, _, _, _, _, _, _, _, _, mg⟩
      · rintro z e X ⟨x0, x1, x70, q, hq, x71, tg', u', g2⟩
        simp [x70, x71]
        refine WB.bool ?_ ?_
        · intro hlt
          simp at hlt
          simp [x0, x1, x71]
          refine WC.of (hE q hlt X tg' u'.wf u'.ok g2) ?_
          rintro r Y ⟨rfl, tg2, u2, g3⟩
          simp (disch := omega) [x71, wrap64]
          exact ⟨z - 1, by omega, x0, x1, x70, q + 1, by omega, by simp, tg2, u'.trans hw u2, g3⟩
        · intro hge
          simp at hge
          have : q = (nth S.cells a).fs.length := by omega
          subst this
          simp
          exact ⟨tg', u', g2⟩
end
end Go.Am

/- Contracts of package heap: the lock, and the methods of a heap that is locked. -/
set_option linter.unusedVariables false
set_option linter.unusedSimpArgs false
namespace Go.Am
variable {T : Tab}
/-! ### Facts on the plain functions -/
@[simp] theorem lessR_len {S : Hp} {i : Int} : (lessR S i).cells.length = S.cells.length := by unfold lessR; simp only; split <;> simp [setC]
theorem lessR_cells {S : Hp} {i : Int} : (lessR S i).cells = S.cells.set i.toNat { nth S.cells i with n := (nth S.cells i).n - 1 } := by unfold lessR; simp only; split <;> rfl
@[simp] theorem setC_len {S : Hp} {i : Int} {c : Cel} : (setC S i c).cells.length = S.cells.length := by simp [setC]
@[simp] theorem emptyR_len {S : Hp} {i f : Int} : (emptyR S i f).cells.length = S.cells.length := by unfold emptyR; simp only; split <;> simp
theorem setC_nth {S : Hp} {i j : Int} {c : Cel} (h0 : 0 ≤ i) (h1 : i < S.cells.length) (hj : 0 ≤ j) : nth (setC S i c).cells j = if i = j then c else nth S.cells j := nth_set h0 h1 hj
theorem lessR_nth {S : Hp} {i j : Int} (h0 : 0 ≤ i) (h1 : i < S.cells.length) (hj : 0 ≤ j) : nth (lessR S i).cells j = if i = j then { nth S.cells i with n := (nth S.cells i).n - 1 } else nth S.cells j := by rw [lessR_cells]; exact nth_set h0 h1 hj
/-- Where the strong reference in a field leads, if there is one. -/
def ToIn (S : Hp) (i f : Int) : Prop := (nth (nth S.cells i).fs f).is = true → (nth (nth S.cells i).fs f).weak = false → 0 ≤ (nth (nth S.cells i).fs f).to ∧ (nth (nth S.cells i).fs f).to < S.cells.length
theorem emptyR_nth {S : Hp} {i f j : Int} (h0 : 0 ≤ i) (h1 : i < S.cells.length) (ht : ToIn S i f) (hj : 0 ≤ j) :
    (nth (emptyR S i f).cells j).fs = (if i = j then (nth S.cells i).fs.set f.toNat ⟨false, false, 0⟩ else (nth S.cells j).fs) ∧ (nth (emptyR S i f).cells j).w = (nth S.cells j).w ∧ (nth (emptyR S i f).cells j).t = (nth S.cells j).t ∧ (nth (emptyR S i f).cells j).e = (nth S.cells j).e ∧
      ((nth (emptyR S i f).cells j).n = (nth S.cells j).n ∨ (nth (emptyR S i f).cells j).n = (nth S.cells j).n - 1) := by
  have base : (nth (setC S i { nth S.cells i with fs := (nth S.cells i).fs.set f.toNat ⟨false, false, 0⟩ }).cells j).fs = (if i = j then (nth S.cells i).fs.set f.toNat ⟨false, false, 0⟩ else (nth S.cells j).fs) ∧
      (nth (setC S i { nth S.cells i with fs := (nth S.cells i).fs.set f.toNat ⟨false, false, 0⟩ }).cells j).w = (nth S.cells j).w ∧ (nth (setC S i { nth S.cells i with fs := (nth S.cells i).fs.set f.toNat ⟨false, false, 0⟩ }).cells j).t = (nth S.cells j).t ∧
      (nth (setC S i { nth S.cells i with fs := (nth S.cells i).fs.set f.toNat ⟨false, false, 0⟩ }).cells j).e = (nth S.cells j).e ∧ (nth (setC S i { nth S.cells i with fs := (nth S.cells i).fs.set f.toNat ⟨false, false, 0⟩ }).cells j).n = (nth S.cells j).n := by
    rw [setC_nth h0 h1 hj]
    split
    · rename_i e; subst e; exact ⟨rfl, rfl, rfl, rfl, rfl⟩
    · exact ⟨rfl, rfl, rfl, rfl, rfl⟩
  unfold emptyR
  simp only
  split
  · rename_i hc
    obtain ⟨t0, t1⟩ := ht hc.1 hc.2
    rw [lessR_nth t0 (by simpa using t1) hj]
    split
    · rename_i e; rw [e]; exact ⟨base.1, base.2.1, base.2.2.1, base.2.2.2.1, .inr (by simp only; rw [base.2.2.2.2])⟩
    · exact ⟨base.1, base.2.1, base.2.2.1, base.2.2.2.1, .inl base.2.2.2.2⟩
  · exact ⟨base.1, base.2.1, base.2.2.1, base.2.2.2.1, .inl base.2.2.2.2⟩
theorem box_copy {H : AHeap} (hw : WF H) {n : Nat} {zs ds : List AV} (hz : zs.length = n) (hd : ds.length = n) (ha : ds.all AV.cell = true) :
    ∃ K, wsem0 (.st n) [.ptr (some (H.next, 0)), .agg ds] (H.new zs) = some (.undef, K) ∧ Fr H K ∧ Box K H.next H.next ds := by
  have fr1 := hw.fr_new (cs := zs)
  obtain ⟨K, s1, s2, s3, s4, s5⟩ := (Box.new (H := H) (cs := zs)).stA fr1.wf hz hd ha
  exact ⟨K, s1, fr1.step s2 s4 fun g hg => by subst hg; exact Nat.le_refl _, s3⟩
section
variable {k : Nat} {tg tg' : Tags} {H H' : AHeap} {b : Nat} {lk : Int} {S : Hp} {fb m : Nat} {cv nv : AV} {fc fn : Option Nat} {xs : List (AV × Cel)} {ff : Nat → Option Nat}
/-! ### The lock -/
theorem c357 (D : D357 T) (hw : WF H) (hk : TagOk tg H) (h : HpR k tg H b 0 S) : Calls T 357 [.ptr (some (b, 0))] H fun r K => r = .fn 381 [.ptr (some (b, 0))] [] ∧ To k tg H b 1 S K := by
  refine Calls.fn D.pr D.fn ?_
  obtain ⟨fb, m, cv, nv, fc, fn, xs, ff, h⟩ := h
  obtain ⟨K, r1, r2, r3, g⟩ := h.setLock hw hk 1
  simp [ir357]
  refine WC.of (c380 D.d380 h.ld0 r1 g.ld0) ?_
  rintro r X ⟨rfl, rfl⟩
  simp
  exact ⟨tg, r3, _, _, _, _, _, _, _, _, g⟩
theorem unlock (D : D381 T) (hw : WF H) (hk : TagOk tg H) (h : HpR k tg H b 1 S) : DCalls T 381 [.ptr (some (b, 0))] H fun K => To k tg H b 0 S K := by
  obtain ⟨fb, m, cv, nv, fc, fn, xs, ff, h⟩ := h
  obtain ⟨K, r1, r2, r3, g⟩ := h.setLock hw hk 0
  refine (c381 D h.ld0 r1).imp ?_
  rintro X rfl
  exact ⟨tg, r3, _, _, _, _, _, _, _, _, g⟩
/-- The end of a method. -/
theorem unlock_to (D : D357 T) {tg1 : Tags} {H1 : AHeap} (hw : WF H) (hu : Up k tg tg1 H H1) (h : HpR k tg1 H1 b 1 S) {P : AHeap → Prop} (hP : ∀ K, To k tg H b 0 S K → P K) : DCalls T 381 [.ptr (some (b, 0))] H1 P :=
  (unlock D.d381 hu.wf hu.ok h).imp fun K t => hP K (t.from_ hw hu)
theorem c324 (D : D324 T) (hw : WF H) (hk : TagOk tg H) (h : HpR k tg H b 0 S) {i : Int} (hb : Bnd S) (hr : -(2 ^ 60) ≤ rget S.roots i ∧ rget S.roots i ≤ 2 ^ 60) :
    Calls T 324 [.ptr (some (b, 0)), .int .i64 i] H fun r K => r = .int .i64 (hasR S i true) ∧ To k tg H b 0 (if hasR S i true = 0 then rootR S i else S) K := by
  refine Calls.fnD D.pr D.fn ?_
  simp [ir324]
  refine WC.of (c357 D.d357 hw hk h) ?_
  rintro r K ⟨rfl, tg1, u1, h1⟩
  obtain ⟨fb, m, cv, nv, fc, fn, xs, ff, hi⟩ := h1
  simp
  refine WC.of (c359 D.d359 u1.wf u1.ok hi) ?_
  rintro r K ⟨rfl, rfl⟩
  simp
  by_cases hz : hasR S i true = 0
  · obtain ⟨q1, q2, _⟩ := hasR_in hz
    have hn := hb.n _ (nth_mem q1 q2)
    simp [hz]
    refine WC.of (c360 D.d360 u1.wf u1.ok ⟨_, _, _, _, _, _, _, _, hi⟩ (i := i) q1 q2 (by omega) hr) ?_
    rintro r X ⟨rfl, tg2, u2, h2⟩
    simp
    exact unlock_to D.d357 hw (u1.trans hw u2) h2 fun K t => t
  · simp [hz]
    exact unlock_to D.d357 hw u1 ⟨_, _, _, _, _, _, _, _, hi⟩ fun K t => t
def dropR (S : Hp) (i : Int) : Hp × Int := if hasR S i true ≠ 0 then (S, hasR S i true) else if rget S.roots i = 0 then (S, 7) else (unrootR S i, 0)
theorem c325 (D : D325 T) (hw : WF H) (hk : TagOk tg H) (h : HpR k tg H b 0 S) {i : Int} (hb : Bnd S) (hr : -(2 ^ 60) ≤ rget S.roots i ∧ rget S.roots i ≤ 2 ^ 60) :
    Calls T 325 [.ptr (some (b, 0)), .int .i64 i] H fun r K => r = .int .i64 (dropR S i).2 ∧ To k tg H b 0 (dropR S i).1 K := by
  refine Calls.fnD D.pr D.fn ?_
  simp [ir325]
  refine WC.of (c357 D.d357 hw hk h) ?_
  rintro r K ⟨rfl, tg1, u1, h1⟩
  obtain ⟨fb, m, cv, nv, fc, fn, xs, ff, hi⟩ := h1
  simp
  refine WC.of (c359 D.d359 u1.wf u1.ok hi) ?_
  rintro r K ⟨rfl, rfl⟩
  simp
  by_cases hz : hasR S i true = 0
  · obtain ⟨q1, q2, _⟩ := hasR_in hz
    have hn := hb.n _ (nth_mem q1 q2)
    by_cases hg : rget S.roots i = 0
    · have hR : dropR S i = (S, 7) := by unfold dropR; rw [if_neg (by simp [hz]), if_pos hg]
      simp [hz, hi.ldm, hi.look, hg, hR]
      exact unlock_to D.d357 hw u1 ⟨_, _, _, _, _, _, _, _, hi⟩ fun K t => t
    · have hR : dropR S i = (unrootR S i, 0) := by unfold dropR; rw [if_neg (by simp [hz]), if_neg hg]
      simp [hz, hi.ldm, hi.look, hg, hR]
      refine WC.of (c361 D.d361 u1.wf u1.ok ⟨_, _, _, _, _, _, _, _, hi⟩ (i := i) q1 q2 (by omega) hr (by have := hb.notes; omega)) ?_
      rintro r X ⟨rfl, tg2, u2, h2⟩
      simp
      exact unlock_to D.d357 hw (u1.trans hw u2) h2 fun K t => t
  · have hR : dropR S i = (S, hasR S i true) := by unfold dropR; rw [if_pos hz]
    simp [hz, hR]
    exact unlock_to D.d357 hw u1 ⟨_, _, _, _, _, _, _, _, hi⟩ fun K t => t
def countR (S : Hp) (i : Int) : Int × Int := if hasR S i false ≠ 0 then (0, hasR S i false) else ((nth S.cells i).n, 0)
def stateR (S : Hp) (i : Int) : Int × Int := if hasR S i false ≠ 0 then (0, hasR S i false) else if (nth S.cells i).e = true then (2, 0) else if (nth S.cells i).t = true then (1, 0) else (0, 0)
theorem c341 (D : D341 T) (hw : WF H) (hk : TagOk tg H) (h : HpR k tg H b 0 S) {i : Int} :
    Calls T 341 [.ptr (some (b, 0)), .int .i64 i] H fun r K => r = .tup [.int .i64 (countR S i).1, .int .i64 (countR S i).2] ∧ To k tg H b 0 S K := by
  refine Calls.fnD D.pr D.fn ?_
  simp [ir341]
  refine WC.of (c357 D.d357 hw hk h) ?_
  rintro r K ⟨rfl, tg1, u1, h1⟩
  obtain ⟨fb, m, cv, nv, fc, fn, xs, ff, hi⟩ := h1
  simp
  refine WC.of (c359 D.d359 u1.wf u1.ok hi) ?_
  rintro r K ⟨rfl, rfl⟩
  simp
  by_cases hz : hasR S i false = 0
  · obtain ⟨q1, q2, _⟩ := hasR_in hz
    have hR : countR S i = ((nth S.cells i).n, 0) := by unfold countR; rw [if_neg (by simp [hz])]
    obtain ⟨bo, oo, e1, e2, e3, e4, e5, e6, _⟩ := hi.cell u1.wf u1.ok q1 q2
    have ia := hi.ia (kk := .i64) q1 q2
    simp [hz, hi.ldc, ia, e1, e6, hR]
    exact unlock_to D.d357 hw u1 ⟨_, _, _, _, _, _, _, _, hi⟩ fun K t => t
  · have hR : countR S i = (0, hasR S i false) := by unfold countR; rw [if_pos hz]
    simp [hz, hR]
    exact unlock_to D.d357 hw u1 ⟨_, _, _, _, _, _, _, _, hi⟩ fun K t => t
end
end Go.Am
