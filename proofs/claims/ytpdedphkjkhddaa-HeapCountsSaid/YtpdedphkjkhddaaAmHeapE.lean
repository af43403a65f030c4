/- Contracts of package heap: roots, fields that are made empty. -/
import Derived.Test.YtpdedphkjkhddaaAmHeapD
set_option linter.unusedVariables false
set_option linter.unusedSimpArgs false
namespace Go.Am
variable {T : Tab}
section
variable {k : Nat} {tg tg' : Tags} {H H' : AHeap} {b : Nat} {lk : Int} {S : Hp} {fb m : Nat} {cv nv : AV} {fc fn : Option Nat} {xs : List (AV × Cel)} {ff : Nat → Option Nat}

theorem To.from_ {tg1 : Tags} {H1 : AHeap} (hw : WF H) (hu : Up k tg tg1 H H1) {K : AHeap} (h : To k tg1 H1 b lk S K) : To k tg H b lk S K := by
  obtain ⟨tg', h1, h2⟩ := h
  exact ⟨tg', hu.trans hw h1, h2⟩

theorem c360 (D : D360 T) (hw : WF H) (hk : TagOk tg H) (h : HpR k tg H b lk S) {i : Int} (h0 : 0 ≤ i) (h1 : i < S.cells.length) (hc : -(2 ^ 60) ≤ (nth S.cells i).n ∧ (nth S.cells i).n ≤ 2 ^ 60) (hr : -(2 ^ 60) ≤ rget S.roots i ∧ rget S.roots i ≤ 2 ^ 60) :
    Calls T 360 [.ptr (some (b, 0)), .int .i64 i] H fun r K => r = .tup [] ∧ To k tg H b lk (rootR S i) K := by
  obtain ⟨fb, m, cv, nv, fc, fn, xs, ff, h⟩ := h
  refine Calls.fn D.pr D.fn ?_
  obtain ⟨K1, r1, r2, r3, g⟩ := h.setRoot hw hk i (rget S.roots i + 1)
  obtain ⟨bo, oo, e1, e2, e3, e4, e5, e6, _, _, _, st⟩ := g.cell r3.wf r3.ok h0 h1
  have ia := g.ia (kk := .i64) h0 h1
  obtain ⟨K2, q1, q2, q3, g2⟩ := st ((nth S.cells i).n + 1)
  simp (disch := omega) [ir360, h.ldm, h.look, wrap64, r1, g.ldc, ia, e1, e6, q1]
  exact ⟨tg, r3.trans hw q3, _, _, _, _, _, _, _, _, g2⟩

theorem c361 (D : D361 T) (hw : WF H) (hk : TagOk tg H) (h : HpR k tg H b lk S) {i : Int} (h0 : 0 ≤ i) (h1 : i < S.cells.length) (hc : -(2 ^ 60) ≤ (nth S.cells i).n ∧ (nth S.cells i).n ≤ 2 ^ 60) (hr : -(2 ^ 60) ≤ rget S.roots i ∧ rget S.roots i ≤ 2 ^ 60) (hl : S.notes.length < 2 ^ 40) :
    Calls T 361 [.ptr (some (b, 0)), .int .i64 i] H fun r K => r = .tup [] ∧ To k tg H b lk (unrootR S i) K := by
  obtain ⟨fb, m, cv, nv, fc, fn, xs, ff, h⟩ := h
  refine Calls.fn D.pr D.fn ?_
  obtain ⟨K1, r1, r2, r3, g⟩ := h.setRoot hw hk i (rget S.roots i - 1)
  have lk := g.look i
  simp (disch := omega) [ir361, h.ldm, h.look, wrap64, r1, g.ldm, lk]
  by_cases hz : rget (rset S.roots i (rget S.roots i - 1)) i = 0
  · obtain ⟨K2, q1, q2, q3, g2⟩ := g.delRoot r3.wf r3.ok i
    simp [hz, g.ldm, q1]
    refine WC.of (c383 D.d383 q3.wf q3.ok ⟨_, _, _, _, _, _, _, _, g2⟩ (i := i) h0 h1 hc hl) ?_
    rintro r K ⟨rfl, t⟩
    simp
    have := t.from_ r3.wf q3
    have := this.from_ hw r3
    unfold unrootR
    simp only [hz, if_true]
    exact this
  · simp [hz]
    refine WC.of (c383 D.d383 r3.wf r3.ok ⟨_, _, _, _, _, _, _, _, g⟩ (i := i) h0 h1 hc hl) ?_
    rintro r K ⟨rfl, t⟩
    simp
    have := t.from_ hw r3
    unfold unrootR
    simp only [hz, if_false]
    exact this

theorem c374 (D : D374 T) (hw : WF H) (hk : TagOk tg H) (h : HpR k tg H b lk S) {i f : Int} (h0 : 0 ≤ i) (h1 : i < S.cells.length) (f0 : 0 ≤ f) (f1 : f < (nth S.cells i).fs.length)
    (hto : (nth (nth S.cells i).fs f).is = true → (nth (nth S.cells i).fs f).weak = false → 0 ≤ (nth (nth S.cells i).fs f).to ∧ (nth (nth S.cells i).fs f).to < S.cells.length) (hb : Bnd S) :
    Calls T 374 [.ptr (some (b, 0)), .int .i64 i, .int .i64 f] H fun r K => r = .tup [] ∧ To k tg H b lk (emptyR S i f) K := by
  refine Calls.fn D.pr D.fn ?_
  obtain ⟨fb, m, cv, nv, fc, fn, xs, ff, h⟩ := h
  obtain ⟨x, hx⟩ : ∃ x, nth (nth S.cells i).fs f = x := ⟨_, rfl⟩
  obtain ⟨bo, oo, e1, e2, _⟩ := h.cell hw hk h0 h1
  have ia := h.ia (kk := .i64) h0 h1
  obtain ⟨b2, o2, p1, p2, _⟩ := h.setField hw hk h0 h1 f0 f1
  have ia2 := (h.fld h0 h1).ia (k := .i64) f0 f1
  have ld2 : rsem (.ld 3 true) [.ptr (some (b2, o2))] H = some (encF x) := by rw [hx] at p2; simp [rsem, p2, encF, AV.cells]
  -- the box
  have fr1 := hw.fr_new (cs := [.bool false, .bool false, .int .i64 0])
  have bx := Box.new (H := H) (cs := [.bool false, .bool false, .int .i64 0])
  obtain ⟨K1, s1, s2, s3, s4, s5⟩ := bx.stA fr1.wf (n := 3) (ds := (encF x).cells) (by simp) (by simp [encF, AV.cells]) (by simp [encF, AV.cells, AV.cell])
  have s1' : wsem0 (.st 3) [.ptr (some (H.next, 0)), encF x] (H.new [.bool false, .bool false, .int .i64 0]) = some (.undef, K1) := by simpa [encF, AV.cells] using s1
  have fr : Fr H K1 := fr1.step s2 s4 fun g hg => by subst hg; exact Nat.le_refl _
  have up1 : Up k tg tg H K1 := Up.fr hw hk fr
  have g : HpI k tg K1 b lk S fb m cv nv fc fn xs ff := h.keeps hw fr.keeps fun g t hg ht => ⟨by omega, ht⟩
  obtain ⟨bo', oo', e1', e2', _⟩ := g.cell up1.wf up1.ok h0 h1
  obtain ⟨b3, o3, p1', _, st⟩ := g.setField up1.wf up1.ok h0 h1 f0 f1
  obtain ⟨K2, q1, q2, q3, g2⟩ := st ⟨false, false, 0⟩
  have q1' : wsem0 (.st 3) [.ptr (some (b3, o3)), .agg [.bool false, .bool false, .int .i64 0]] K1 = some (.undef, K2) := by simp only [encF, AV.cells] at q1; simp [wsem0_st, AV.cells, q1]
  have bx2 : Box K2 H.next H.next (encF x).cells := s3.keeps up1.wf q3.keeps (by
    rintro ⟨t, ht⟩
    rw [hk _ (Nat.le_refl _)] at ht; cases ht)
  have l0 : rsem (.ld 1 false) [.ptr (some (H.next, 0))] K2 = some (.bool x.is) := by simp [rsem, AHeap.ld, bx2.row, encF, AV.cells]
  have l1 : rsem (.ld 1 false) [.ptr (some (H.next, 1))] K2 = some (.bool x.weak) := by simp [rsem, AHeap.ld, bx2.row, encF, AV.cells]
  have l2 : rsem (.ld 1 false) [.ptr (some (H.next, 2))] K2 = some (.int .i64 x.to) := by simp [rsem, AHeap.ld, bx2.row, encF, AV.cells]
  have ia3 := g.ia (kk := .i64) h0 h1
  have ia4 := (g.fld h0 h1).ia (k := .i64) f0 f1
  simp [ir374, h.ldc, ia, e1, e2, ia2, p1, ld2]
  simp [AV.cells, AV.cell, s1', g.ldc, ia3, e1', e2', ia4, p1', psem_bld', fill, q1', l0, l1, l2]
  have up2 : Up k tg tg H K2 := up1.trans hw q3
  have hS : emptyR S i f = if x.is = true ∧ x.weak = false then lessR (setC S i { nth S.cells i with fs := (nth S.cells i).fs.set f.toNat ⟨false, false, 0⟩ }) x.to else setC S i { nth S.cells i with fs := (nth S.cells i).fs.set f.toNat ⟨false, false, 0⟩ } := by
    unfold emptyR; simp only [hx]
  have g3 : HpR k tg K2 b lk (setC S i { nth S.cells i with fs := (nth S.cells i).fs.set f.toNat ⟨false, false, 0⟩ }) := ⟨_, _, _, _, _, _, _, _, g2⟩
  cases his : x.is with
  | false =>
    simp [his]
    rw [hS, if_neg (by simp [his])]
    exact ⟨tg, up2, g3⟩
  | true =>
    cases hwk : x.weak with
    | true =>
      simp [his, hwk, l1, l2]
      rw [hS, if_neg (by simp [hwk])]
      exact ⟨tg, up2, g3⟩
    | false =>
      simp [his, hwk, l1, l2]
      rw [hx] at hto
      obtain ⟨t0, t1⟩ := hto his hwk
      rw [hS, if_pos ⟨his, hwk⟩]
      have hcn : (nth (setC S i { nth S.cells i with fs := (nth S.cells i).fs.set f.toNat ⟨false, false, 0⟩ }).cells x.to).n = (nth S.cells x.to).n := by
        simp only [setC]
        rw [nth_set h0 h1 t0]
        split
        · rename_i e; subst e; rfl
        · rfl
      have hbn := hb.n _ (nth_mem t0 t1)
      refine WC.of (c383 D.d383 q3.wf q3.ok g3 (i := x.to) t0 (by simpa [setC] using t1) (by rw [hcn]; omega) (by have := hb.notes; simp only [setC]; omega)) ?_
      rintro r K ⟨rfl, t⟩
      simp
      exact t.from_ hw up2
end
end Go.Am
