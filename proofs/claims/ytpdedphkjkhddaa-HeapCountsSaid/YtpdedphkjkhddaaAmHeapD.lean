/- Contracts of package heap: what a number of a cell is, counts, roots. -/
import Derived.Test.YtpdedphkjkhddaaAmHeapC
set_option linter.unusedVariables false
set_option linter.unusedSimpArgs false
namespace Go.Am
variable {T : Tab}

section
variable {k : Nat} {tg tg' : Tags} {H H' : AHeap} {b : Nat} {lk : Int} {S : Hp} {fb m : Nat} {cv nv : AV} {fc fn : Option Nat} {xs : List (AV × Cel)} {ff : Nat → Option Nat}

theorem HpI.lenC (h : HpI k tg H b lk S fb m cv nv fc fn xs ff) : psem .len [cv] = some (.int .i64 S.cells.length) := by rw [h.cs.1.len, h.len]
theorem HpI.ia (h : HpI k tg H b lk S fb m cv nv fc fn xs ff) {kk : IntKind} {i : Int} (h0 : 0 ≤ i) (h1 : i < S.cells.length) : psem (.ia 5) [cv, .int kk i] = some (elt cv 5 i) := h.cs.1.ia h0 (by rw [h.len]; exact h1)
theorem HpI.lenN (h : HpI k tg H b lk S fb m cv nv fc fn xs ff) : psem .len [nv] = some (.int .i64 S.notes.length) := h.ns.1.len

/-- A cell's words. -/
theorem HpI.cell (h : HpI k tg H b lk S fb m cv nv fc fn xs ff) (hw : WF H) (hk : TagOk tg H) {i : Int} (h0 : 0 ≤ i) (h1 : i < S.cells.length) :
    ∃ bo oo, elt cv 5 i = .ptr (some (bo, oo)) ∧ rsem (.ld 1 false) [.ptr (some (bo, oo))] H = some (nth xs i).1 ∧ rsem (.ld 1 false) [.ptr (some (bo, oo + 1))] H = some (.bool (nth S.cells i).w) ∧
      rsem (.ld 1 false) [.ptr (some (bo, oo + 2))] H = some (.bool (nth S.cells i).t) ∧ rsem (.ld 1 false) [.ptr (some (bo, oo + 3))] H = some (.bool (nth S.cells i).e) ∧ rsem (.ld 1 false) [.ptr (some (bo, oo + 4))] H = some (.int .i64 (nth S.cells i).n) ∧
      rsem (.ld 5 true) [.ptr (some (bo, oo))] H = some (encC ((nth xs i).1, nth S.cells i)) ∧
      (∀ x, ∃ H', wsem0 (.st 1) [.ptr (some (bo, oo + 2)), .bool x] H = some (.undef, H') ∧ H'.next = H.next ∧ Up k tg tg H H' ∧ HpI k tg H' b lk { S with cells := S.cells.set i.toNat { nth S.cells i with t := x } } fb m cv nv fc fn (xs.set i.toNat ((nth xs i).1, { nth S.cells i with t := x })) ff) ∧
      (∀ x, ∃ H', wsem0 (.st 1) [.ptr (some (bo, oo + 3)), .bool x] H = some (.undef, H') ∧ H'.next = H.next ∧ Up k tg tg H H' ∧ HpI k tg H' b lk { S with cells := S.cells.set i.toNat { nth S.cells i with e := x } } fb m cv nv fc fn (xs.set i.toNat ((nth xs i).1, { nth S.cells i with e := x })) ff) ∧
      (∀ x, ∃ H', wsem0 (.st 1) [.ptr (some (bo, oo + 4)), .int .i64 x] H = some (.undef, H') ∧ H'.next = H.next ∧ Up k tg tg H H' ∧ HpI k tg H' b lk { S with cells := S.cells.set i.toNat { nth S.cells i with n := x } } fb m cv nv fc fn (xs.set i.toNat ((nth xs i).1, { nth S.cells i with n := x })) ff) := by
  obtain ⟨a1, a2⟩ := h.at h0 h1
  obtain ⟨bo, oo, e1, e2, e3⟩ := h.setCell hw hk h0 h1
  have l0 := e2 0 1 (by omega)
  have l1 := e2 1 1 (by omega)
  have l2 := e2 2 1 (by omega)
  have l3 := e2 3 1 (by omega)
  have l4 := e2 4 1 (by omega)
  have l5 := e2 0 5 (by omega)
  simp only [encC, AV.cells, Nat.add_zero] at l0 l1 l2 l3 l4 l5
  refine ⟨bo, oo, e1, by simp [rsem, l0], by simp [rsem, l1, a1], by simp [rsem, l2, a1], by simp [rsem, l3, a1], by simp [rsem, l4, a1], by simp [rsem, l5, a1, encC], fun x => ?_, fun x => ?_, fun x => ?_⟩
  · obtain ⟨H', r1, r2⟩ := e3 { nth S.cells i with t := x } 2 (.bool x) (by omega) (by omega) rfl rfl (by simp [encC, AV.cells, a1])
    exact ⟨H', by simp [wsem0_st, AV.cells, r1], r2⟩
  · obtain ⟨H', r1, r2⟩ := e3 { nth S.cells i with e := x } 3 (.bool x) (by omega) (by omega) rfl rfl (by simp [encC, AV.cells, a1])
    exact ⟨H', by simp [wsem0_st, AV.cells, r1], r2⟩
  · obtain ⟨H', r1, r2⟩ := e3 { nth S.cells i with n := x } 4 (.int .i64 x) (by omega) (by omega) rfl rfl (by simp [encC, AV.cells, a1])
    exact ⟨H', by simp [wsem0_st, AV.cells, r1], r2⟩
end

/-! ### What a number of a cell is -/
def hasR (S : Hp) (i : Int) (live : Bool) : Int := if i < 0 ∨ (S.cells.length : Int) ≤ i then 4 else if live = true ∧ (nth S.cells i).e = true then 9 else 0
def hasFieldR (S : Hp) (i f : Int) : Int := if hasR S i true ≠ 0 then hasR S i true else if f < 0 ∨ ((nth S.cells i).fs.length : Int) ≤ f then 1 else 0

theorem hasR_in {S : Hp} {i : Int} {live : Bool} (h : hasR S i live = 0) : 0 ≤ i ∧ i < S.cells.length ∧ (live = true → (nth S.cells i).e = false) := by
  unfold hasR at h
  split at h
  · simp at h
  · rename_i h1
    split at h
    · simp at h
    · rename_i h2
      refine ⟨by omega, by omega, fun hl => ?_⟩
      cases he : (nth S.cells i).e with
      | false => rfl
      | true => exact absurd ⟨hl, he⟩ h2
theorem hasFieldR_in {S : Hp} {i f : Int} (h : hasFieldR S i f = 0) : 0 ≤ i ∧ i < S.cells.length ∧ (nth S.cells i).e = false ∧ 0 ≤ f ∧ f < (nth S.cells i).fs.length := by
  unfold hasFieldR at h
  split at h
  · rename_i h1; exact absurd h h1
  · rename_i h1
    obtain ⟨q1, q2, q3⟩ := hasR_in (Decidable.not_not.1 h1)
    split at h
    · simp at h
    · rename_i h2; exact ⟨q1, q2, q3 rfl, by omega, by omega⟩

section
variable {k : Nat} {tg tg' : Tags} {H H' : AHeap} {b : Nat} {lk : Int} {S : Hp} {fb m : Nat} {cv nv : AV} {fc fn : Option Nat} {xs : List (AV × Cel)} {ff : Nat → Option Nat}

theorem c359 (D : D359 T) (hw : WF H) (hk : TagOk tg H) (h : HpI k tg H b lk S fb m cv nv fc fn xs ff) {i : Int} {live : Bool} : Calls T 359 [.ptr (some (b, 0)), .int .i64 i, .bool live] H fun r K => r = .int .i64 (hasR S i live) ∧ K = H := by
  refine Calls.fn D.pr D.fn ?_
  by_cases h0 : i < 0
  · have hR : hasR S i live = 4 := by unfold hasR; rw [if_pos (.inl h0)]
    simp [ir359, h0, hR]
  · by_cases h1 : (S.cells.length : Int) ≤ i
    · have hR : hasR S i live = 4 := by unfold hasR; rw [if_pos (.inr h1)]
      simp [ir359, h0, h1, h.ldc, h.lenC, hR]
    · obtain ⟨bo, oo, e1, e2, e3, e4, e5, e6, _⟩ := h.cell hw hk (i := i) (by omega) (by omega)
      have ia := h.ia (kk := .i64) (i := i) (by omega) (by omega)
      cases live with
      | false =>
        have hR : hasR S i false = 0 := by unfold hasR; rw [if_neg (by omega), if_neg (by simp)]
        simp [ir359, h0, h1, h.ldc, h.lenC, hR]
      | true =>
        cases he : (nth S.cells i).e with
        | true =>
          have hR : hasR S i true = 9 := by unfold hasR; rw [if_neg (by omega), if_pos ⟨rfl, he⟩]
          simp [ir359, h0, h1, h.ldc, h.lenC, ia, e1, e5, he, hR]
        | false =>
          have hR : hasR S i true = 0 := by unfold hasR; rw [if_neg (by omega), if_neg (by simp [he])]
          simp [ir359, h0, h1, h.ldc, h.lenC, ia, e1, e5, he, hR]

theorem HpI.fld (h : HpI k tg H b lk S fb m cv nv fc fn xs ff) {i : Int} (h0 : 0 ≤ i) (h1 : i < S.cells.length) : Sl encF 3 H (nth xs i).1 (nth S.cells i).fs := by
  obtain ⟨a1, a2⟩ := h.at h0 h1
  have := (h.fs _ _ a2).1.1
  rwa [a1] at this

theorem c373 (D : D373 T) (hw : WF H) (hk : TagOk tg H) (h : HpI k tg H b lk S fb m cv nv fc fn xs ff) {i f : Int} : Calls T 373 [.ptr (some (b, 0)), .int .i64 i, .int .i64 f] H fun r K => r = .int .i64 (hasFieldR S i f) ∧ K = H := by
  refine Calls.fn D.pr D.fn ?_
  simp [ir373]
  refine WC.of (c359 D.d359 hw hk h) ?_
  rintro r K ⟨rfl, rfl⟩
  by_cases hz : hasR S i true = 0
  · obtain ⟨q1, q2, _⟩ := hasR_in hz
    obtain ⟨bo, oo, e1, e2, _⟩ := h.cell hw hk (i := i) (by omega) (by omega)
    have ia := h.ia (kk := .i64) (i := i) (by omega) (by omega)
    have fl := (h.fld q1 q2).len
    by_cases f0 : f < 0
    · have hR : hasFieldR S i f = 1 := by unfold hasFieldR; rw [if_neg (by simp [hz]), if_pos (.inl f0)]
      simp [hz, f0, hR]
    · by_cases f1 : ((nth S.cells i).fs.length : Int) ≤ f
      · have hR : hasFieldR S i f = 1 := by unfold hasFieldR; rw [if_neg (by simp [hz]), if_pos (.inr f1)]
        simp [hz, f0, f1, hR, h.ldc, ia, e1, e2, fl]
      · have hR : hasFieldR S i f = 0 := by unfold hasFieldR; rw [if_neg (by simp [hz]), if_neg (by omega)]
        simp [hz, f0, f1, hR, h.ldc, ia, e1, e2, fl]
  · have hR : hasFieldR S i f = hasR S i true := by unfold hasFieldR; rw [if_pos hz]
    simp [hz, hR]
end

/-! ### Counts and roots -/
def setC (S : Hp) (i : Int) (c : Cel) : Hp := { S with cells := S.cells.set i.toNat c }
def lessR (S : Hp) (i : Int) : Hp :=
  let c := nth S.cells i
  let S1 := setC S i { c with n := c.n - 1 }
  if c.n - 1 = 0 then { S1 with notes := S1.notes ++ [i] } else S1
def rootR (S : Hp) (i : Int) : Hp :=
  let S1 := { S with roots := rset S.roots i (rget S.roots i + 1) }
  setC S1 i { nth S.cells i with n := (nth S.cells i).n + 1 }
def unrootR (S : Hp) (i : Int) : Hp :=
  let S1 := { S with roots := rset S.roots i (rget S.roots i - 1) }
  lessR (if rget S1.roots i = 0 then { S1 with roots := rdel S1.roots i } else S1) i
def emptyR (S : Hp) (i f : Int) : Hp :=
  let c := nth S.cells i
  let old := nth c.fs f
  let S1 := setC S i { c with fs := c.fs.set f.toNat ⟨false, false, 0⟩ }
  if old.is = true ∧ old.weak = false then lessR S1 old.to else S1

/-- Bounds that keep the sums small. -/
structure Bnd (S : Hp) : Prop where
  n : ∀ c ∈ S.cells, -(2 ^ 50) ≤ c.n ∧ c.n ≤ 2 ^ 50
  notes : S.notes.length < 2 ^ 39

theorem nth_mem {α : Type} [Inhabited α] {l : List α} {i : Int} (h0 : 0 ≤ i) (h1 : i < l.length) : nth l i ∈ l := List.mem_of_getElem? (nth_eq h0 h1)

section
variable {k : Nat} {tg tg' : Tags} {H H' : AHeap} {b : Nat} {lk : Int} {S : Hp} {fb m : Nat} {cv nv : AV} {fc fn : Option Nat} {xs : List (AV × Cel)} {ff : Nat → Option Nat}

/-- What a call on the heap leaves. -/
def To (k : Nat) (tg : Tags) (H : AHeap) (b : Nat) (lk : Int) (S' : Hp) (K : AHeap) : Prop := ∃ tg', Up k tg tg' H K ∧ HpR k tg' K b lk S'

theorem c383 (D : D383 T) (hw : WF H) (hk : TagOk tg H) (h : HpR k tg H b lk S) {i : Int} (h0 : 0 ≤ i) (h1 : i < S.cells.length) (hc : -(2 ^ 60) ≤ (nth S.cells i).n ∧ (nth S.cells i).n ≤ 2 ^ 60) (hl : S.notes.length < 2 ^ 40) :
    Calls T 383 [.ptr (some (b, 0)), .int .i64 i] H fun r K => r = .tup [] ∧ To k tg H b lk (lessR S i) K := by
  obtain ⟨fb, m, cv, nv, fc, fn, xs, ff, h⟩ := h
  refine Calls.fn D.pr D.fn ?_
  obtain ⟨bo, oo, e1, e2, e3, e4, e5, e6, _, _, _, st⟩ := h.cell hw hk h0 h1
  have ia := h.ia (kk := .i64) h0 h1
  obtain ⟨K1, r1, r2, r3, g⟩ := st ((nth S.cells i).n - 1)
  have g0 := g.ldc
  have hl1 : i < ((S.cells.set i.toNat { nth S.cells i with n := (nth S.cells i).n - 1 }).length : Nat) := by rw [List.length_set]; exact h1
  obtain ⟨bo', oo', e1', _, _, _, _, e6', _⟩ := g.cell r3.wf r3.ok h0 hl1
  have hn : nth (S.cells.set i.toNat { nth S.cells i with n := (nth S.cells i).n - 1 }) i = { nth S.cells i with n := (nth S.cells i).n - 1 } := by rw [nth_set h0 h1 h0, if_pos rfl]
  rw [e1] at e1'
  simp only [AV.ptr.injEq, Option.some.injEq, Prod.mk.injEq] at e1'
  obtain ⟨rfl, rfl⟩ := e1'
  rw [hn] at e6'
  simp (disch := omega) [ir383, h.ldc, ia, e1, e6, wrap64, r1, g0, e6']
  by_cases hz : (nth S.cells i).n - 1 = 0
  · have hb := wsem0_bsl1 (v := .int .i64 i) (z := .int .i64 0) (H := K1) rfl
    obtain ⟨v', K2, K3, tg', f', q1, q2, q3, q4, q5⟩ := g.pushNote r3.wf r3.ok i hl
    have q6 : wsem0 (.st 1) [.ptr (some (b, 4)), v'] K2 = some (.undef, K3) := by
      have hv : v'.cells = [v'] := by cases v' <;> simp_all [AV.cells, AV.cell]
      simp [wsem0_st, hv, q3]
    simp [hz, g.ldn, hb, q1, q6]
    refine ⟨tg', r3.trans hw q4, ?_⟩
    have : lessR S i = { cells := S.cells.set i.toNat { nth S.cells i with n := (nth S.cells i).n - 1 }, roots := S.roots, notes := S.notes ++ [i] } := by
      unfold lessR; simp only [hz, if_true]; simp [setC, hz]
    rw [this]
    exact ⟨_, _, _, _, _, _, _, _, q5⟩
  · simp [hz]
    refine ⟨tg, r3, ?_⟩
    have : lessR S i = { cells := S.cells.set i.toNat { nth S.cells i with n := (nth S.cells i).n - 1 }, roots := S.roots, notes := S.notes } := by
      unfold lessR; rw [if_neg hz]; rfl
    rw [this]
    exact ⟨_, _, _, _, _, _, _, _, g⟩
end
end Go.Am
