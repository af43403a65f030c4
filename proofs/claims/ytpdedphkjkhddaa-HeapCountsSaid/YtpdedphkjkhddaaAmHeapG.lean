/- Contracts of package heap: the lock, and the methods of a heap that is locked. -/
import Derived.Test.YtpdedphkjkhddaaAmHeapF
set_option linter.unusedVariables false
set_option linter.unusedSimpArgs false
namespace Go.Am
variable {T : Tab}

/-! ### Facts on the plain functions -/
@[simp] theorem lessR_len {S : Hp} {i : Int} : (lessR S i).cells.length = S.cells.length := by unfold lessR; simp only; split <;> simp [setC]
theorem lessR_cells {S : Hp} {i : Int} : (lessR S i).cells = S.cells.set i.toNat { nth S.cells i with n := (nth S.cells i).n - 1 } := by unfold lessR; simp only; split <;> rfl
@[simp] theorem setC_len {S : Hp} {i : Int} {c : Cel} : (setC S i c).cells.length = S.cells.length := by simp [setC]
@[simp] theorem emptyR_len {S : Hp} {i f : Int} : (emptyR S i f).cells.length = S.cells.length := by unfold emptyR; simp only; split <;> simp
theorem setC_nth {S : Hp} {i j : Int} {c : Cel} (h0 : 0 ≤ i) (h1 : i < S.cells.length) (hj : 0 ≤ j) : nth (setC S i c).cells j = if i = j then c else nth S.cells j := nth_set h0 h1 hj
theorem lessR_nth {S : Hp} {i j : Int} (h0 : 0 ≤ i) (h1 : i < S.cells.length) (hj : 0 ≤ j) : nth (lessR S i).cells j = if i = j then { nth S.cells i with n := (nth S.cells i).n - 1 } else nth S.cells j := by rw [lessR_cells]; exact nth_set h0 h1 hj

/-- Where the strong reference in a field leads, if there is one. -/
def ToIn (S : Hp) (i f : Int) : Prop := (nth (nth S.cells i).fs f).is = true → (nth (nth S.cells i).fs f).weak = false → 0 ≤ (nth (nth S.cells i).fs f).to ∧ (nth (nth S.cells i).fs f).to < S.cells.length

theorem emptyR_nth {S : Hp} {i f j : Int} (h0 : 0 ≤ i) (h1 : i < S.cells.length) (ht : ToIn S i f) (hj : 0 ≤ j) :
    (nth (emptyR S i f).cells j).fs = (if i = j then (nth S.cells i).fs.set f.toNat ⟨false, false, 0⟩ else (nth S.cells j).fs) ∧ (nth (emptyR S i f).cells j).w = (nth S.cells j).w ∧ (nth (emptyR S i f).cells j).t = (nth S.cells j).t ∧ (nth (emptyR S i f).cells j).e = (nth S.cells j).e ∧
      ((nth (emptyR S i f).cells j).n = (nth S.cells j).n ∨ (nth (emptyR S i f).cells j).n = (nth S.cells j).n - 1) := by
  have base : (nth (setC S i { nth S.cells i with fs := (nth S.cells i).fs.set f.toNat ⟨false, false, 0⟩ }).cells j).fs = (if i = j then (nth S.cells i).fs.set f.toNat ⟨false, false, 0⟩ else (nth S.cells j).fs) ∧
      (nth (setC S i { nth S.cells i with fs := (nth S.cells i).fs.set f.toNat ⟨false, false, 0⟩ }).cells j).w = (nth S.cells j).w ∧ (nth (setC S i { nth S.cells i with fs := (nth S.cells i).fs.set f.toNat ⟨false, false, 0⟩ }).cells j).t = (nth S.cells j).t ∧
      (nth (setC S i { nth S.cells i with fs := (nth S.cells i).fs.set f.toNat ⟨false, false, 0⟩ }).cells j).e = (nth S.cells j).e ∧ (nth (setC S i { nth S.cells i with fs := (nth S.cells i).fs.set f.toNat ⟨false, false, 0⟩ }).cells j).n = (nth S.cells j).n := by
    rw [setC_nth h0 h1 hj]
    split
    · rename_i e; subst e; exact ⟨rfl, rfl, rfl, rfl, rfl⟩
    · exact ⟨rfl, rfl, rfl, rfl, rfl⟩
  unfold emptyR
  simp only
  split
  · rename_i hc
    obtain ⟨t0, t1⟩ := ht hc.1 hc.2
    rw [lessR_nth t0 (by simpa using t1) hj]
    split
    · rename_i e; rw [e]; exact ⟨base.1, base.2.1, base.2.2.1, base.2.2.2.1, .inr (by simp only; rw [base.2.2.2.2])⟩
    · exact ⟨base.1, base.2.1, base.2.2.1, base.2.2.2.1, .inl base.2.2.2.2⟩
  · exact ⟨base.1, base.2.1, base.2.2.1, base.2.2.2.1, .inl base.2.2.2.2⟩

theorem box_copy {H : AHeap} (hw : WF H) {n : Nat} {zs ds : List AV} (hz : zs.length = n) (hd : ds.length = n) (ha : ds.all AV.cell = true) :
    ∃ K, wsem0 (.st n) [.ptr (some (H.next, 0)), .agg ds] (H.new zs) = some (.undef, K) ∧ Fr H K ∧ Box K H.next H.next ds := by
  have fr1 := hw.fr_new (cs := zs)
  obtain ⟨K, s1, s2, s3, s4, s5⟩ := (Box.new (H := H) (cs := zs)).stA fr1.wf hz hd ha
  exact ⟨K, s1, fr1.step s2 s4 fun g hg => by subst hg; exact Nat.le_refl _, s3⟩

section
variable {k : Nat} {tg tg' : Tags} {H H' : AHeap} {b : Nat} {lk : Int} {S : Hp} {fb m : Nat} {cv nv : AV} {fc fn : Option Nat} {xs : List (AV × Cel)} {ff : Nat → Option Nat}

/-! ### The lock -/
theorem c357 (D : D357 T) (hw : WF H) (hk : TagOk tg H) (h : HpR k tg H b 0 S) : Calls T 357 [.ptr (some (b, 0))] H fun r K => r = .fn 381 [.ptr (some (b, 0))] [] ∧ To k tg H b 1 S K := by
  refine Calls.fn D.pr D.fn ?_
  obtain ⟨fb, m, cv, nv, fc, fn, xs, ff, h⟩ := h
  obtain ⟨K, r1, r2, r3, g⟩ := h.setLock hw hk 1
  simp [ir357]
  refine WC.of (c380 D.d380 h.ld0 r1 g.ld0) ?_
  rintro r X ⟨rfl, rfl⟩
  simp
  exact ⟨tg, r3, _, _, _, _, _, _, _, _, g⟩

theorem unlock (D : D381 T) (hw : WF H) (hk : TagOk tg H) (h : HpR k tg H b 1 S) : DCalls T 381 [.ptr (some (b, 0))] H fun K => To k tg H b 0 S K := by
  obtain ⟨fb, m, cv, nv, fc, fn, xs, ff, h⟩ := h
  obtain ⟨K, r1, r2, r3, g⟩ := h.setLock hw hk 0
  refine (c381 D h.ld0 r1).imp ?_
  rintro X rfl
  exact ⟨tg, r3, _, _, _, _, _, _, _, _, g⟩

/-- The end of a method. -/
theorem unlock_to (D : D357 T) {tg1 : Tags} {H1 : AHeap} (hw : WF H) (hu : Up k tg tg1 H H1) (h : HpR k tg1 H1 b 1 S) {P : AHeap → Prop} (hP : ∀ K, To k tg H b 0 S K → P K) : DCalls T 381 [.ptr (some (b, 0))] H1 P :=
  (unlock D.d381 hu.wf hu.ok h).imp fun K t => hP K (t.from_ hw hu)

theorem c324 (D : D324 T) (hw : WF H) (hk : TagOk tg H) (h : HpR k tg H b 0 S) {i : Int} (hb : Bnd S) (hr : -(2 ^ 60) ≤ rget S.roots i ∧ rget S.roots i ≤ 2 ^ 60) :
    Calls T 324 [.ptr (some (b, 0)), .int .i64 i] H fun r K => r = .int .i64 (hasR S i true) ∧ To k tg H b 0 (if hasR S i true = 0 then rootR S i else S) K := by
  refine Calls.fnD D.pr D.fn ?_
  simp [ir324]
  refine WC.of (c357 D.d357 hw hk h) ?_
  rintro r K ⟨rfl, tg1, u1, h1⟩
  obtain ⟨fb, m, cv, nv, fc, fn, xs, ff, hi⟩ := h1
  simp
  refine WC.of (c359 D.d359 u1.wf u1.ok hi) ?_
  rintro r K ⟨rfl, rfl⟩
  simp
  by_cases hz : hasR S i true = 0
  · obtain ⟨q1, q2, _⟩ := hasR_in hz
    have hn := hb.n _ (nth_mem q1 q2)
    simp [hz]
    refine WC.of (c360 D.d360 u1.wf u1.ok ⟨_, _, _, _, _, _, _, _, hi⟩ (i := i) q1 q2 (by omega) hr) ?_
    rintro r X ⟨rfl, tg2, u2, h2⟩
    simp
    exact unlock_to D.d357 hw (u1.trans hw u2) h2 fun K t => t
  · simp [hz]
    exact unlock_to D.d357 hw u1 ⟨_, _, _, _, _, _, _, _, hi⟩ fun K t => t

def dropR (S : Hp) (i : Int) : Hp × Int := if hasR S i true ≠ 0 then (S, hasR S i true) else if rget S.roots i = 0 then (S, 7) else (unrootR S i, 0)

theorem c325 (D : D325 T) (hw : WF H) (hk : TagOk tg H) (h : HpR k tg H b 0 S) {i : Int} (hb : Bnd S) (hr : -(2 ^ 60) ≤ rget S.roots i ∧ rget S.roots i ≤ 2 ^ 60) :
    Calls T 325 [.ptr (some (b, 0)), .int .i64 i] H fun r K => r = .int .i64 (dropR S i).2 ∧ To k tg H b 0 (dropR S i).1 K := by
  refine Calls.fnD D.pr D.fn ?_
  simp [ir325]
  refine WC.of (c357 D.d357 hw hk h) ?_
  rintro r K ⟨rfl, tg1, u1, h1⟩
  obtain ⟨fb, m, cv, nv, fc, fn, xs, ff, hi⟩ := h1
  simp
  refine WC.of (c359 D.d359 u1.wf u1.ok hi) ?_
  rintro r K ⟨rfl, rfl⟩
  simp
  by_cases hz : hasR S i true = 0
  · obtain ⟨q1, q2, _⟩ := hasR_in hz
    have hn := hb.n _ (nth_mem q1 q2)
    by_cases hg : rget S.roots i = 0
    · have hR : dropR S i = (S, 7) := by unfold dropR; rw [if_neg (by simp [hz]), if_pos hg]
      simp [hz, hi.ldm, hi.look, hg, hR]
      exact unlock_to D.d357 hw u1 ⟨_, _, _, _, _, _, _, _, hi⟩ fun K t => t
    · have hR : dropR S i = (unrootR S i, 0) := by unfold dropR; rw [if_neg (by simp [hz]), if_neg hg]
      simp [hz, hi.ldm, hi.look, hg, hR]
      refine WC.of (c361 D.d361 u1.wf u1.ok ⟨_, _, _, _, _, _, _, _, hi⟩ (i := i) q1 q2 (by omega) hr (by have := hb.notes; omega)) ?_
      rintro r X ⟨rfl, tg2, u2, h2⟩
      simp
      exact unlock_to D.d357 hw (u1.trans hw u2) h2 fun K t => t
  · have hR : dropR S i = (S, hasR S i true) := by unfold dropR; rw [if_pos hz]
    simp [hz, hR]
    exact unlock_to D.d357 hw u1 ⟨_, _, _, _, _, _, _, _, hi⟩ fun K t => t

def countR (S : Hp) (i : Int) : Int × Int := if hasR S i false ≠ 0 then (0, hasR S i false) else ((nth S.cells i).n, 0)
def stateR (S : Hp) (i : Int) : Int × Int := if hasR S i false ≠ 0 then (0, hasR S i false) else if (nth S.cells i).e = true then (2, 0) else if (nth S.cells i).t = true then (1, 0) else (0, 0)

theorem c341 (D : D341 T) (hw : WF H) (hk : TagOk tg H) (h : HpR k tg H b 0 S) {i : Int} :
    Calls T 341 [.ptr (some (b, 0)), .int .i64 i] H fun r K => r = .tup [.int .i64 (countR S i).1, .int .i64 (countR S i).2] ∧ To k tg H b 0 S K := by
  refine Calls.fnD D.pr D.fn ?_
  simp [ir341]
  refine WC.of (c357 D.d357 hw hk h) ?_
  rintro r K ⟨rfl, tg1, u1, h1⟩
  obtain ⟨fb, m, cv, nv, fc, fn, xs, ff, hi⟩ := h1
  simp
  refine WC.of (c359 D.d359 u1.wf u1.ok hi) ?_
  rintro r K ⟨rfl, rfl⟩
  simp
  by_cases hz : hasR S i false = 0
  · obtain ⟨q1, q2, _⟩ := hasR_in hz
    have hR : countR S i = ((nth S.cells i).n, 0) := by unfold countR; rw [if_neg (by simp [hz])]
    obtain ⟨bo, oo, e1, e2, e3, e4, e5, e6, _⟩ := hi.cell u1.wf u1.ok q1 q2
    have ia := hi.ia (kk := .i64) q1 q2
    simp [hz, hi.ldc, ia, e1, e6, hR]
    exact unlock_to D.d357 hw u1 ⟨_, _, _, _, _, _, _, _, hi⟩ fun K t => t
  · have hR : countR S i = (0, hasR S i false) := by unfold countR; rw [if_pos hz]
    simp [hz, hR]
    exact unlock_to D.d357 hw u1 ⟨_, _, _, _, _, _, _, _, hi⟩ fun K t => t
end
end Go.Am
