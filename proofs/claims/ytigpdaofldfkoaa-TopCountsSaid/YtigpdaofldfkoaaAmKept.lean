/- TopCounts: a heap with what is known of it: three slices in a box, held apart by tags. -/
import Derived.Test.YtigpdaofldfkoaaAmIrTop
import Derived.Test.YtigpdaofldfkoaaAmSetl
import Derived.Test.YtigpdaofldfkoaaAmUps
set_option linter.unusedVariables false
set_option linter.unusedSimpArgs false
namespace Go.Am
variable {T : Tab}
theorem Up.putN {k g : Nat} {tg tg1 : Tags} {H H' : AHeap} {t : Tag} (h : Up k tg tg1 H H') (hg : H.next ≤ g) (hg' : g < H'.next) : Up k tg (upd tg1 g (some (k, t))) H H' := by
  refine ⟨h.wf, fun i hi => ?_, h.keeps, fun i => ?_⟩
  · rw [upd_ne _ _ _ (by omega)]; exact h.ok i hi
  · by_cases e : i = g
    · subst e; exact .inr ⟨.inr hg, fun j t' ht => by rw [upd_same] at ht; simp at ht; exact ht.1.symm⟩
    · rw [upd_ne _ _ _ e]; exact h.tag i
/-- A slice that has grown keeps its tag. -/
theorem tagNew {k : Nat} {tg : Tags} {H H1 : AHeap} {t : Tag} {f f' : Option Nat} (hw1 : WF H1) (hk : TagOk tg H) (hf : ∀ g, f = some g → tg g = some (k, t)) (k4 : Keeps (fun g => f = some g) H H1) (q5 : ∀ g, f' = some g → f = some g ∨ H.next ≤ g) (hlt : ∀ g, f' = some g → g < H1.next) :
    ∃ tg', Up k tg tg' H H1 ∧ (∀ g, f' = some g → tg' g = some (k, t)) ∧ ∀ g, g < H.next → tg' g = tg g := by
  have up1 : Up k tg tg H H1 := ⟨hw1, fun g hg => hk g (Nat.le_trans k4.next hg), k4.mono fun g e => ⟨_, hf g e⟩, fun _ => .inl rfl⟩
  cases f' with
  | none => exact ⟨tg, up1, (by intro g hg; cases hg), fun _ _ => rfl⟩
  | some g =>
    rcases q5 g rfl with e | e
    · exact ⟨tg, up1, (by intro g' hg; cases hg; exact hf _ e), fun _ _ => rfl⟩
    · exact ⟨_, up1.putN (t := t) e (hlt g rfl), (by intro g' hg; cases hg; exact upd_same _ _ _), fun g' hg' => upd_ne _ _ _ (by omega)⟩
structure KJ (k : Nat) (tg : Tags) (H : AHeap) (kb fk : Nat) (cs : List AV) (fv rv tv : AV) (f1 f2 f3 : Option Nat) (lf lr : List Int) (lt : List Bool) : Prop where
  box : Box H kb fk cs
  tb : tg fk = some (k, .str)
  o1 : Own encI 1 H fv lf f1
  t1 : ∀ g, f1 = some g → tg g = some (k, .cells)
  o2 : Own encI 1 H rv lr f2
  t2 : ∀ g, f2 = some g → tg g = some (k, .notes)
  o3 : Own encB 1 H tv lt f3
  t3 : ∀ g, f3 = some g → tg g = some (k, .roots)
section
variable {k : Nat} {tg tg' : Tags} {H H' : AHeap} {kb fk : Nat} {cs : List AV} {fv rv tv : AV} {f1 f2 f3 : Option Nat} {lf lr : List Int} {lt : List Bool}
theorem KJ.keeps (h : KJ k tg H kb fk cs fv rv tv f1 f2 f3 lf lr lt) (hw : WF H) {D : Nat → Prop} (hk : Keeps D H H') (hD : ∀ g t, g < H.next → tg g = some (k, t) → ¬D g ∧ tg' g = some (k, t)) : KJ k tg' H' kb fk cs fv rv tv f1 f2 f3 lf lr lt := by
  have l1 := hw.row_fam h.box.row
  refine ⟨h.box.keeps hw hk (hD _ _ l1 h.tb).1, (hD _ _ l1 h.tb).2, h.o1.keeps hw hk fun g hg => ?_, fun g hg => ?_, h.o2.keeps hw hk fun g hg => ?_, fun g hg => ?_, h.o3.keeps hw hk fun g hg => ?_, fun g hg => ?_⟩
  · subst hg; exact (hD _ _ (h.o1.2.lt hw) (h.t1 _ rfl)).1
  · subst hg; exact (hD _ _ (h.o1.2.lt hw) (h.t1 _ rfl)).2
  · subst hg; exact (hD _ _ (h.o2.2.lt hw) (h.t2 _ rfl)).1
  · subst hg; exact (hD _ _ (h.o2.2.lt hw) (h.t2 _ rfl)).2
  · subst hg; exact (hD _ _ (h.o3.2.lt hw) (h.t3 _ rfl)).1
  · subst hg; exact (hD _ _ (h.o3.2.lt hw) (h.t3 _ rfl)).2
theorem KJ.other (h : KJ k tg H kb fk cs fv rv tv f1 f2 f3 lf lr lt) (hw : WF H) {j : Nat} (hj : k ≠ j) (hu : Up j tg tg' H H') : KJ k tg' H' kb fk cs fv rv tv f1 f2 f3 lf lr lt :=
  h.keeps hw hu.keeps fun g t hg ht => ⟨(hu.other hj hg ht).2, (hu.other hj hg ht).1⟩
theorem KJ.fr (h : KJ k tg H kb fk cs fv rv tv f1 f2 f3 lf lr lt) (hw : WF H) (f : Fr H H') : KJ k tg H' kb fk cs fv rv tv f1 f2 f3 lf lr lt :=
  h.keeps hw f.keeps fun g t hg ht => ⟨by omega, ht⟩
theorem KJ.ne (h : KJ k tg H kb fk cs fv rv tv f1 f2 f3 lf lr lt) {g g' : Nat} {t t' : Tag} (h1 : tg g = some (k, t)) (h2 : tg g' = some (k, t')) (hne : t ≠ t') : g ≠ g' := by
  intro e; subst e; rw [h1] at h2; simp at h2; exact hne h2
/-- The box is written. -/
theorem KJ.stBox (h : KJ k tg H kb fk cs fv rv tv f1 f2 f3 lf lr lt) (hw : WF H) (hk : TagOk tg H) {off : Nat} {v : AV} (ho : off < cs.length) (hv : v.cell = true) :
    ∃ H', wsem0 (.st 1) [.ptr (some (kb, off)), v] H = some (.undef, H') ∧ Up k tg tg H H' ∧ KJ k tg H' kb fk (cs.set off v) fv rv tv f1 f2 f3 lf lr lt := by
  obtain ⟨H', r1, r2, r3, r4, r5⟩ := h.box.st hw (off := off) (vs := [v]) (by simp; omega) (by simpa using hv)
  rw [splice_one ho] at r3
  have hc : v.cells = [v] := by cases v <;> simp_all [AV.cells, AV.cell]
  refine ⟨H', by simp [wsem0_st, hc, r1], Up.one hk h.tb r2 r5 r4, r3, h.tb, h.o1.keeps hw r4 fun g hg => h.ne (h.t1 g hg) h.tb (by simp), h.t1, h.o2.keeps hw r4 fun g hg => h.ne (h.t2 g hg) h.tb (by simp), h.t2, h.o3.keeps hw r4 fun g hg => h.ne (h.t3 g hg) h.tb (by simp), h.t3⟩
theorem KJ.push1 (h : KJ k tg H kb fk cs fv rv tv f1 f2 f3 lf lr lt) (hw : WF H) (hk : TagOk tg H) (x : Int) (hl : lf.length < 2 ^ 30) :
    ∃ v' H' tg' f', wsem0 (.app 1 8) [fv, .slc (some (H.next, 0)) 1 1 (some 1)] (H.new [.int .i64 x]) = some (v', H') ∧ Up k tg tg' H H' ∧ KJ k tg' H' kb fk cs v' rv tv f' f2 f3 (lf ++ [x]) lr lt := by
  obtain ⟨v', H1, f', q1, q2, q3, q4, q5⟩ := Go.Am.push1 (bytes := 8) hw h.o1 x (by omega) (by omega)
  obtain ⟨tg', u, htn, hold⟩ := tagNew q2 hk h.t1 q4 q5 fun g hg => by have := q3.2; rw [hg] at this; exact this.lt q2
  have keepT : ∀ g t, g < H.next → tg g = some (k, t) → tg' g = some (k, t) := fun g t hg ht => by rw [hold g hg]; exact ht
  have l1 := hw.row_fam h.box.row
  have l2 : ∀ g, f2 = some g → g < H.next := fun g hg => by have := h.o2.2; rw [hg] at this; exact this.lt hw
  have l3 : ∀ g, f3 = some g → g < H.next := fun g hg => by have := h.o3.2; rw [hg] at this; exact this.lt hw
  exact ⟨v', H1, tg', f', q1, u, h.box.keeps hw q4 fun e => h.ne (h.t1 _ e) h.tb (by simp) rfl, keepT _ _ l1 h.tb, q3, htn, h.o2.keeps hw q4 fun g hg e => h.ne (h.t1 _ e) (h.t2 g hg) (by simp) rfl, fun g hg => keepT _ _ (l2 g hg) (h.t2 g hg), h.o3.keeps hw q4 fun g hg e => h.ne (h.t1 _ e) (h.t3 g hg) (by simp) rfl, fun g hg => keepT _ _ (l3 g hg) (h.t3 g hg)⟩
theorem KJ.push2 (h : KJ k tg H kb fk cs fv rv tv f1 f2 f3 lf lr lt) (hw : WF H) (hk : TagOk tg H) (x : Int) (hl : lr.length < 2 ^ 30) :
    ∃ v' H' tg' f', wsem0 (.app 1 8) [rv, .slc (some (H.next, 0)) 1 1 (some 1)] (H.new [.int .i64 x]) = some (v', H') ∧ Up k tg tg' H H' ∧ KJ k tg' H' kb fk cs fv v' tv f1 f' f3 lf (lr ++ [x]) lt := by
  obtain ⟨v', H1, f', q1, q2, q3, q4, q5⟩ := Go.Am.push1 (bytes := 8) hw h.o2 x (by omega) (by omega)
  obtain ⟨tg', u, htn, hold⟩ := tagNew q2 hk h.t2 q4 q5 fun g hg => by have := q3.2; rw [hg] at this; exact this.lt q2
  have keepT : ∀ g t, g < H.next → tg g = some (k, t) → tg' g = some (k, t) := fun g t hg ht => by rw [hold g hg]; exact ht
  have l1 := hw.row_fam h.box.row
  have l2 : ∀ g, f1 = some g → g < H.next := fun g hg => by have := h.o1.2; rw [hg] at this; exact this.lt hw
  have l3 : ∀ g, f3 = some g → g < H.next := fun g hg => by have := h.o3.2; rw [hg] at this; exact this.lt hw
  exact ⟨v', H1, tg', f', q1, u, h.box.keeps hw q4 fun e => h.ne (h.t2 _ e) h.tb (by simp) rfl, keepT _ _ l1 h.tb, h.o1.keeps hw q4 fun g hg e => h.ne (h.t2 _ e) (h.t1 g hg) (by simp) rfl, fun g hg => keepT _ _ (l2 g hg) (h.t1 g hg), q3, htn, h.o3.keeps hw q4 fun g hg e => h.ne (h.t2 _ e) (h.t3 g hg) (by simp) rfl, fun g hg => keepT _ _ (l3 g hg) (h.t3 g hg)⟩
theorem KJ.push3 (h : KJ k tg H kb fk cs fv rv tv f1 f2 f3 lf lr lt) (hw : WF H) (hk : TagOk tg H) (x : Bool) (hl : lt.length < 2 ^ 30) :
    ∃ v' H' tg' f', wsem0 (.app 1 1) [tv, .slc (some (H.next, 0)) 1 1 (some 1)] (H.new [.bool x]) = some (v', H') ∧ Up k tg tg' H H' ∧ KJ k tg' H' kb fk cs fv rv v' f1 f2 f' lf lr (lt ++ [x]) := by
  obtain ⟨v', H1, f', q1, q2, q3, q4, q5⟩ := Go.Am.push1 (bytes := 1) hw h.o3 x (by omega) (by omega)
  obtain ⟨tg', u, htn, hold⟩ := tagNew q2 hk h.t3 q4 q5 fun g hg => by have := q3.2; rw [hg] at this; exact this.lt q2
  have keepT : ∀ g t, g < H.next → tg g = some (k, t) → tg' g = some (k, t) := fun g t hg ht => by rw [hold g hg]; exact ht
  have l1 := hw.row_fam h.box.row
  have l2 : ∀ g, f1 = some g → g < H.next := fun g hg => by have := h.o1.2; rw [hg] at this; exact this.lt hw
  have l3 : ∀ g, f2 = some g → g < H.next := fun g hg => by have := h.o2.2; rw [hg] at this; exact this.lt hw
  exact ⟨v', H1, tg', f', q1, u, h.box.keeps hw q4 fun e => h.ne (h.t3 _ e) h.tb (by simp) rfl, keepT _ _ l1 h.tb, h.o1.keeps hw q4 fun g hg e => h.ne (h.t3 _ e) (h.t1 g hg) (by simp) rfl, fun g hg => keepT _ _ (l2 g hg) (h.t1 g hg), h.o2.keeps hw q4 fun g hg e => h.ne (h.t3 _ e) (h.t2 g hg) (by simp) rfl, fun g hg => keepT _ _ (l3 g hg) (h.t2 g hg), q3, htn⟩
/-- A number of roots is written. -/
theorem KJ.st2 (h : KJ k tg H kb fk cs fv rv tv f1 f2 f3 lf lr lt) (hw : WF H) (hk : TagOk tg H) {i : Int} (h0 : 0 ≤ i) (h1 : i < lr.length) (x : Int) :
    ∃ H', wsem0 (.st 1) [elt rv 1 i, .int .i64 x] H = some (.undef, H') ∧ Up k tg tg H H' ∧ KJ k tg H' kb fk cs fv rv tv f1 f2 f3 lf (lr.set i.toNat x) lt := by
  obtain ⟨H', r1, r2, r4, r3, r5⟩ := h.o2.stB hw h0 h1 x
  exact ⟨H', r1, Up.oneO hk h.t2 r2 r5 r4, h.box.keeps hw r4 fun e => h.ne (h.t2 _ e) h.tb (by simp) rfl, h.tb, h.o1.keeps hw r4 fun g hg e => h.ne (h.t2 _ e) (h.t1 g hg) (by simp) rfl, h.t1, r3, h.t2, h.o3.keeps hw r4 fun g hg e => h.ne (h.t2 _ e) (h.t3 g hg) (by simp) rfl, h.t3⟩
/-- A mark is written. -/
theorem KJ.st3 (h : KJ k tg H kb fk cs fv rv tv f1 f2 f3 lf lr lt) (hw : WF H) (hk : TagOk tg H) {i : Int} (h0 : 0 ≤ i) (h1 : i < lt.length) (x : Bool) :
    ∃ H', wsem0 (.st 1) [elt tv 1 i, .bool x] H = some (.undef, H') ∧ Up k tg tg H H' ∧ KJ k tg H' kb fk cs fv rv tv f1 f2 f3 lf lr (lt.set i.toNat x) := by
  obtain ⟨H', r1, r2, r4, r3, r5⟩ := h.o3.stB hw h0 h1 x
  exact ⟨H', r1, Up.oneO hk h.t3 r2 r5 r4, h.box.keeps hw r4 fun e => h.ne (h.t3 _ e) h.tb (by simp) rfl, h.tb, h.o1.keeps hw r4 fun g hg e => h.ne (h.t3 _ e) (h.t1 g hg) (by simp) rfl, h.t1, h.o2.keeps hw r4 fun g hg e => h.ne (h.t3 _ e) (h.t2 g hg) (by simp) rfl, h.t2, r3, h.t3⟩
end
/-- The whole, in the box's order. -/
def KR (k : Nat) (tg : Tags) (H : AHeap) (b kb : Nat) (lf lr : List Int) (lt : List Bool) : Prop :=
  ∃ fk fv rv tv f1 f2 f3, KJ k tg H kb fk [.ptr (some (b, 0)), fv, rv, tv] fv rv tv f1 f2 f3 lf lr lt
section
variable {k : Nat} {tg tg' : Tags} {H H' : AHeap} {b kb fk : Nat} {fv rv tv : AV} {f1 f2 f3 : Option Nat} {lf lr : List Int} {lt : List Bool} {p1 p2 p3 : AV}
theorem KJ.ld0 (h : KJ k tg H kb fk [.ptr (some (b, 0)), p1, p2, p3] fv rv tv f1 f2 f3 lf lr lt) : rsem (.ld 1 false) [.ptr (some (kb, 0))] H = some (.ptr (some (b, 0))) := by simp [rsem, AHeap.ld, h.box.row]
theorem KJ.ld1 (h : KJ k tg H kb fk [.ptr (some (b, 0)), p1, p2, p3] fv rv tv f1 f2 f3 lf lr lt) : rsem (.ld 1 false) [.ptr (some (kb, 1))] H = some p1 := by simp [rsem, AHeap.ld, h.box.row]
theorem KJ.ld2 (h : KJ k tg H kb fk [.ptr (some (b, 0)), p1, p2, p3] fv rv tv f1 f2 f3 lf lr lt) : rsem (.ld 1 false) [.ptr (some (kb, 2))] H = some p2 := by simp [rsem, AHeap.ld, h.box.row]
theorem KJ.ld3 (h : KJ k tg H kb fk [.ptr (some (b, 0)), p1, p2, p3] fv rv tv f1 f2 f3 lf lr lt) : rsem (.ld 1 false) [.ptr (some (kb, 3))] H = some p3 := by simp [rsem, AHeap.ld, h.box.row]
theorem KR.other (h : KR k tg H b kb lf lr lt) (hw : WF H) {j : Nat} (hj : k ≠ j) (hu : Up j tg tg' H H') : KR k tg' H' b kb lf lr lt := by
  obtain ⟨fk, fv, rv, tv, f1, f2, f3, h⟩ := h
  exact ⟨fk, fv, rv, tv, f1, f2, f3, h.other hw hj hu⟩
theorem KR.fr (h : KR k tg H b kb lf lr lt) (hw : WF H) (f : Fr H H') : KR k tg H' b kb lf lr lt := by
  obtain ⟨fk, fv, rv, tv, f1, f2, f3, h⟩ := h
  exact ⟨fk, fv, rv, tv, f1, f2, f3, h.fr hw f⟩
theorem KR.step (h : KR k tg H b kb lf lr lt) (hw : WF H) {n : Nat} (f : Keeps (fun g => n ≤ g ∧ tg g = Option.none) H H') : KR k tg H' b kb lf lr lt := by
  obtain ⟨fk, fv, rv, tv, f1, f2, f3, h⟩ := h
  exact ⟨fk, fv, rv, tv, f1, f2, f3, h.keeps hw f fun g t hg ht => ⟨(fun e => by rw [ht] at e; cases e.2), ht⟩⟩
end
/-- Who is told once more. -/
theorem c536 (D : D536 T) {tg : Tags} {H : AHeap} {b kb : Nat} {lf lr : List Int} {lt : List Bool} (hw : WF H) (hk : TagOk tg H) (h : KR 9 tg H b kb lf lr lt) {a : Int} (h0 : 0 ≤ a) (h1 : a < lt.length) (hf : nth lt a = false) :
    Calls T 536 [.ptr (some (kb, 0)), .int .i64 a] H fun r K => r = .bool true ∧ Up 9 tg tg H K ∧ KR 9 tg K b kb lf lr (lt.set a.toNat true) := by
  refine Calls.fn D.pr D.fn ?_
  obtain ⟨fk, fv, rv, tv, f1, f2, f3, h⟩ := h
  have hn : ¬a < 0 := by omega
  have hge : ¬(lt.length : Int) ≤ a := by omega
  have len := h.o3.1.len
  have ia := h.o3.1.ia (k := .i64) h0 h1
  have ld := h.o3.1.ld h0 h1
  rw [hf] at ld
  obtain ⟨K, s1, s2, s3⟩ := h.st3 hw hk h0 h1 true
  simp [ir536, hn, h.ld3, len, hge, ia, ld, encB, s1]
  exact ⟨s2, fk, fv, rv, tv, f1, f2, f3, s3⟩
end Go.Am

/- TopCounts, the plain law: what acts do to the numbers of fields, the roots and the marks. -/
set_option linter.unusedVariables false
set_option linter.unusedSimpArgs false
namespace Go.Am
def lfQ (Q : Rp) : List Int := Q.cells.map fun c => (c.fs.length : Int)
def lrQ (Q : Rp) : List Int := Q.cells.map fun c => c.n
def ltQ (Q : Rp) : List Bool := Q.cells.map fun c => c.t
theorem nth_mapB {α β : Type} [Inhabited α] [Inhabited β] {l : List α} (f : α → β) {i : Int} (h0 : 0 ≤ i) (h1 : i < l.length) : nth (l.map f) i = f (nth l i) := by
  have hi : i.toNat < l.length := by omega
  simp [nth, hi]
/-- As many cells, with as many fields. -/
structure Lns (Q Q' : Rp) : Prop where
  len : Q'.cells.length = Q.cells.length
  at_ : ∀ i : Int, 0 ≤ i → i < Q.cells.length → (nth Q'.cells i).fs.length = (nth Q.cells i).fs.length
theorem Lns.refl (Q : Rp) : Lns Q Q := ⟨rfl, fun _ _ _ => rfl⟩
theorem Lns.trans {Q Q1 Q2 : Rp} (h : Lns Q Q1) (k : Lns Q1 Q2) : Lns Q Q2 :=
  ⟨k.len.trans h.len, fun i i0 i1 => (k.at_ i i0 (by rw [h.len]; exact i1)).trans (h.at_ i i0 i1)⟩
theorem Lns.lf {Q Q' : Rp} (h : Lns Q Q') : lfQ Q' = lfQ Q := by
  refine ext_nthT (by simp [lfQ, h.len]) fun i i0 i1 => ?_
  simp only [lfQ, List.length_map] at i1
  unfold lfQ
  rw [nth_mapB _ i0 i1, nth_mapB _ i0 (by rw [← h.len]; exact i1), h.at_ i i0 (by rw [← h.len]; exact i1)]
where
  ext_nthT {l m : List Int} (hl : l.length = m.length) (h : ∀ i : Int, 0 ≤ i → i < l.length → nth l i = nth m i) : l = m := by
    apply List.ext_getElem hl
    intro i h1 h2
    have := h (i : Int) (by omega) (by omega)
    have e1 : nth l (i : Int) = l[i] := by simp [nth, List.getElem?_eq_getElem h1]
    have e2 : nth m (i : Int) = m[i] := by simp [nth, List.getElem?_eq_getElem h2]
    rwa [e1, e2] at this
theorem ext_nthU {α : Type} [Inhabited α] {l m : List α} (hl : l.length = m.length) (h : ∀ i : Int, 0 ≤ i → i < l.length → nth l i = nth m i) : l = m := by
  apply List.ext_getElem hl
  intro i h1 h2
  have := h (i : Int) (by omega) (by omega)
  have e1 : nth l (i : Int) = l[i] := by simp [nth, List.getElem?_eq_getElem h1]
  have e2 : nth m (i : Int) = m[i] := by simp [nth, List.getElem?_eq_getElem h2]
  rwa [e1, e2] at this
theorem nOf_nth {Q : Rp} {i : Int} (h0 : 0 ≤ i) (h1 : i < Q.cells.length) : nth (lrQ Q) i = nOf Q i := by
  unfold lrQ nOf
  rw [nth_mapB _ h0 h1, if_pos ⟨h0, h1⟩]
theorem tOf_nth {Q : Rp} {i : Int} (h0 : 0 ≤ i) (h1 : i < Q.cells.length) : nth (ltQ Q) i = decide (tOf Q i = 1) := by
  unfold ltQ tOf
  rw [nth_mapB _ h0 h1]
  cases ht : (nth Q.cells i).t with
  | true => rw [if_pos ⟨h0, h1, rfl⟩]; rfl
  | false => rw [if_neg (fun c => by cases c.2.2)]; rfl
theorem Lns.lr {Q Q' : Rp} (h : Lns Q Q') (e : ∀ a, nOf Q' a = nOf Q a) : lrQ Q' = lrQ Q := by
  refine ext_nthU (by simp [lrQ, h.len]) fun i i0 i1 => ?_
  simp only [lrQ, List.length_map] at i1
  have i2 : i < Q.cells.length := by rw [← h.len]; exact i1
  rw [nOf_nth i0 i1, nOf_nth i0 i2, e]
theorem Lns.lr1 {Q Q' : Rp} (h : Lns Q Q') {j v : Int} (j0 : 0 ≤ j) (j1 : j < Q.cells.length) (e : ∀ a, nOf Q' a = if a = j then v else nOf Q a) : lrQ Q' = (lrQ Q).set j.toNat v := by
  refine ext_nthU (by simp [lrQ, h.len]) fun i i0 i1 => ?_
  simp only [lrQ, List.length_map] at i1
  have i2 : i < Q.cells.length := by rw [← h.len]; exact i1
  rw [nOf_nth i0 i1, e, nth_set j0 (by simpa [lrQ] using j1) i0, nOf_nth i0 i2]
  by_cases hh : i = j
  · rw [if_pos hh, if_pos hh.symm]
  · rw [if_neg hh, if_neg (Ne.symm hh)]
theorem Lns.lt {Q Q' : Rp} (h : Lns Q Q') (e : ∀ a, tOf Q' a = tOf Q a) : ltQ Q' = ltQ Q := by
  refine ext_nthU (by simp [ltQ, h.len]) fun i i0 i1 => ?_
  simp only [ltQ, List.length_map] at i1
  have i2 : i < Q.cells.length := by rw [← h.len]; exact i1
  rw [tOf_nth i0 i1, tOf_nth i0 i2, e]
theorem lns_qset {Q : Rp} {i : Int} (h0 : 0 ≤ i) (h1 : i < Q.cells.length) {c : Cel} (hc : c.fs.length = (nth Q.cells i).fs.length) : Lns Q (qset Q i c) := by
  refine ⟨by simp, fun j j0 j1 => ?_⟩
  rw [qset_nth h0 h1 j0]
  split
  · rename_i e; subst e; exact hc
  · rfl
theorem lns_note (Q : Rp) (i : Int) : Lns Q (noteQ Q i) := ⟨by rw [note_cells], fun j _ _ => by rw [note_cells]⟩
theorem lns_empty {Q : Rp} {i f : Int} (h0 : 0 ≤ i) (h1 : i < Q.cells.length) : Lns Q (emptyQ Q i f) := by
  refine ⟨(emptyQ_lens h0 h1).1, fun j j0 j1 => ?_⟩
  rw [emptyQ_nth h0 h1 j0]
  split
  · rename_i e; subst e; simp
  · rfl
theorem lns_weak (Q : Rp) (a : Int) : Lns Q (weakQ Q a) := by
  refine ⟨by simp [weakQ], fun j j0 j1 => ?_⟩
  unfold weakQ
  simp only
  rw [nth_clr j0 j1]
  simp [clrC]
theorem lns_empties {Q : Rp} {a : Int} (h0 : 0 ≤ a) (h1 : a < Q.cells.length) : ∀ n : Nat, Lns Q (emptiesQ Q a n)
  | 0 => .refl Q
  | n + 1 => by
    have ih := lns_empties h0 h1 n
    exact ih.trans (lns_empty h0 (by rw [ih.len]; exact h1))
theorem lns_end {Q : Rp} {a : Int} (h0 : 0 ≤ a) (h1 : a < Q.cells.length) : Lns Q (endQ Q a) := by
  have l1 := lns_qset h0 h1 (c := { nth Q.cells a with e := true }) rfl
  have l2 := l1.trans (lns_weak _ a)
  exact l2.trans (lns_empties h0 (by rw [l2.len]; exact h1) _)
theorem lns_set (Q : Rp) (i f to : Int) (w : Bool) : Lns Q (setQ Q i f to w).1 := by
  unfold setQ
  by_cases c1 : hasFieldR Q.hp i f ≠ 0
  · rw [if_pos c1]; exact .refl Q
  · rw [if_neg c1]
    by_cases c2 : hasR Q.hp to true ≠ 0
    · rw [if_pos c2]; exact .refl Q
    · rw [if_neg c2]
      obtain ⟨q1, q2, q3, q4, q5⟩ := hasFieldR_in (Decidable.not_not.1 c1)
      simp only [Rp.hp_cells] at q2
      have l1 := lns_empty (f := f) q1 q2
      exact l1.trans (lns_qset q1 (by rw [l1.len]; exact q2) (by simp))
theorem lns_clear (Q : Rp) (i f : Int) : Lns Q (clearQ Q i f).1 := by
  unfold clearQ
  by_cases c1 : hasFieldR Q.hp i f ≠ 0
  · rw [if_pos c1]; exact .refl Q
  · rw [if_neg c1]
    obtain ⟨q1, q2, q3, q4, q5⟩ := hasFieldR_in (Decidable.not_not.1 c1)
    simp only [Rp.hp_cells] at q2
    exact lns_empty q1 q2
theorem lns_root (Q : Rp) (i : Int) : Lns Q (rootQ Q i).1 := by
  unfold rootQ
  by_cases c1 : hasR Q.hp i true ≠ 0
  · rw [if_pos c1]; exact .refl Q
  · rw [if_neg c1]
    obtain ⟨q1, q2, q3⟩ := hasR_in (Decidable.not_not.1 c1)
    simp only [Rp.hp_cells] at q2
    exact lns_qset q1 q2 rfl
theorem lns_drop (Q : Rp) (i : Int) : Lns Q (dropQ Q i).1 := by
  unfold dropQ
  by_cases c1 : hasR Q.hp i true ≠ 0
  · rw [if_pos c1]; exact .refl Q
  · rw [if_neg c1]
    obtain ⟨q1, q2, q3⟩ := hasR_in (Decidable.not_not.1 c1)
    simp only [Rp.hp_cells] at q2
    by_cases c2 : (nth Q.cells i).n = 0
    · rw [if_pos c2]; exact .refl Q
    · rw [if_neg c2]
      exact (lns_qset q1 q2 (c := { nth Q.cells i with n := (nth Q.cells i).n - 1 }) rfl).trans (lns_note _ i)
theorem lns_notes (Q : Rp) (r : List Int) : Lns Q { Q with notes := r } := ⟨rfl, fun _ _ _ => rfl⟩
theorem lns_next {A : Int} (hA : A ≤ 2 ^ 40) : ∀ (n : Nat) {S : Hp} {Q : Rp}, Both A S Q → phi Q < n → phi Q < 2 ^ 38 → Lns Q (nextQ n Q).1
  | 0, S, Q, _, h, _ => absurd h (by omega)
  | n + 1, S, Q, h, hn, hp => by
    cases hq : Q.notes with
    | nil => simp only [nextQ, hq]; exact .refl Q
    | cons a r =>
      obtain ⟨a0, a1⟩ := h.good.notes a (by rw [hq]; exact List.mem_cons_self)
      have hct := h.good.counted a0 a1
      obtain ⟨ht, htp⟩ := both_take h hq
      have gn := (h.good.n _ (nth_mem a0 a1)).1
      simp only [nextQ, hq]
      by_cases c1 : (nth Q.cells a).e = true ∨ 0 < countedR Q a
      · simp only [if_pos c1]
        exact (lns_notes Q r).trans (lns_next hA n ht (by omega) (by omega))
      · simp only [if_neg c1]
        have he : (nth Q.cells a).e = false := by
          cases e : (nth Q.cells a).e with
          | false => rfl
          | true => exact absurd (.inl e) c1
        have hz : (nth Q.cells a).n = 0 ∧ refs Q.cells a = 0 := by
          have : ¬ 0 < countedR Q a := fun e => c1 (.inr e)
          rw [hct] at this
          omega
        by_cases c2 : (nth Q.cells a).w = true ∧ (nth Q.cells a).t = false
        · simp only [if_pos c2]
          exact (lns_notes Q r).trans (lns_qset (Q := { Q with notes := r }) a0 a1 rfl)
        · simp only [if_neg c2]
          obtain ⟨e1, e2, e3, e4⟩ := both_end ht a0 a1 he hz hA (by omega)
          exact ((lns_notes Q r).trans (lns_end (Q := { Q with notes := r }) a0 a1)).trans (lns_next hA n e1 (by omega) (by omega))
theorem lns_settle {A : Int} (hA : A ≤ 2 ^ 40) {n : Nat} : ∀ (m : Nat) {S : Hp} {Q : Rp}, Both A S Q → phi Q < m → phi Q < n → phi Q < 2 ^ 38 → Dry Q →
    Lns Q (settleQ m n Q).1 ∧ ∀ a, nOf (settleQ m n Q).1 a = nOf Q a
  | 0, S, Q, _, h, _, _, _ => absurd h (by omega)
  | m + 1, S, Q, h, hm, hn, hp, d => by
    obtain ⟨i1, i2, i3, i4, i5, i6⟩ := both_next hA n h hn hp
    obtain ⟨dn, nn⟩ := next_law hA n h hn hp d
    have ln := lns_next hA n h hn hp
    unfold settleQ
    by_cases ht : (nextQ n Q).2.2 = true
    · obtain ⟨j1, j2, j3, j4, j5⟩ := i6 ht
      rw [if_neg (by simp [ht])]
      obtain ⟨g, gp⟩ := both_unroot i4 j2 j3 j5
      have hd : dropQ (nextQ n Q).1 (nextQ n Q).2.1 = (noteQ (qset (nextQ n Q).1 (nextQ n Q).2.1 { nth (nextQ n Q).1.cells (nextQ n Q).2.1 with n := (nth (nextQ n Q).1.cells (nextQ n Q).2.1).n - 1 }) (nextQ n Q).2.1, 0) := by
        unfold dropQ
        have : hasR (nextQ n Q).1.hp (nextQ n Q).2.1 true = 0 := by
          unfold hasR
          simp only [Rp.hp_cells]
          rw [if_neg (by omega), if_neg (by rw [j4]; simp)]
        rw [this, if_neg (by simp), if_neg j5]
      obtain ⟨dd, nd⟩ := drop_law dn (nextQ n Q).2.1
      have ld := lns_drop (nextQ n Q).1 (nextQ n Q).2.1
      obtain ⟨Q2, hQ2⟩ : ∃ Q2, noteQ (qset (nextQ n Q).1 (nextQ n Q).2.1 { nth (nextQ n Q).1.cells (nextQ n Q).2.1 with n := (nth (nextQ n Q).1.cells (nextQ n Q).2.1).n - 1 }) (nextQ n Q).2.1 = Q2 := ⟨_, rfl⟩
      rw [hQ2] at hd g gp
      rw [hd] at dd nd ld ⊢
      obtain ⟨k1, k2⟩ := lns_settle (n := n) (Q := Q2) hA m g (by omega) (by omega) (by omega) dd
      refine ⟨(ln.trans ld).trans k1, fun a => ?_⟩
      have e1 := nd a
      have e2 := nn a
      simp only [true_and] at e1
      have k2 := k2 a
      simp only at k2 ⊢
      rw [k2, e1, e2]
      by_cases ha : a = (nextQ n Q).2.1
      · rw [if_pos ha, if_pos ⟨ht, ha⟩]; omega
      · rw [if_neg ha, if_neg (fun c => ha c.2)]
    · rw [if_pos (by simpa using ht)]
      refine ⟨ln, fun a => ?_⟩
      rw [nn, if_neg (fun c => ht c.1)]
/-- A new cell. -/
theorem make_lists {Q : Rp} {n : Int} (w : Bool) (h0 : 0 ≤ n) (h8 : n ≤ 8) (hc : Q.cells.length ≠ 100) :
    (makeQ Q n w).2 = ((Q.cells.length : Int), 0) ∧ lfQ (makeQ Q n w).1 = lfQ Q ++ [n] ∧ lrQ (makeQ Q n w).1 = lrQ Q ++ [0] ∧ ltQ (makeQ Q n w).1 = ltQ Q ++ [false] := by
  have e : makeR Q.hp n w = ({ Q.hp with cells := Q.cells ++ [⟨List.replicate n.toNat ⟨false, false, 0⟩, w, false, false, 0⟩], notes := Q.notes ++ [(Q.cells.length : Int)] }, (Q.cells.length : Int), 0) := by
    have hc' : ¬ Q.hp.cells.length = 100 := hc
    unfold makeR
    rw [if_neg (by omega), if_neg hc']; rfl
  have hn : ((n.toNat : Nat) : Int) = n := by omega
  unfold makeQ lfQ lrQ ltQ
  rw [e]
  simp [Hp.rp, hn]
theorem make_full {Q : Rp} {n : Int} (w : Bool) (h0 : 0 ≤ n) (h8 : n ≤ 8) (hc : Q.cells.length = 100) : makeQ Q n w = (Q, 0, 3) := by
  have e : makeR Q.hp n w = (Q.hp, 0, 3) := by
    have hc' : Q.hp.cells.length = 100 := hc
    unfold makeR
    rw [if_neg (by omega), if_pos hc']
  unfold makeQ
  rw [e]; rfl
end Go.Am

/- TopCounts: an act, and what is known then. -/
set_option linter.unusedVariables false
set_option linter.unusedSimpArgs false
namespace Go.Am
variable {T : Tab}
structure Kc (H0 : AHeap) (tg : Tags) (H : AHeap) (b kb : Nat) (S : Hp) (Q : Rp) : Prop where
  d : Uno H0 tg H b S
  kr : KR 9 tg H b kb (lfQ Q) (lrQ Q) (ltQ Q)
section
variable {H0 H K : AHeap} {tg tg' : Tags} {b kb : Nat} {S S' : Hp} {Q : Rp} {k : Nat}
theorem Uno.other (d : Uno H0 tg H b S) (hk : 0 ≠ k) (u : Up k tg tg' H K) : Uno H0 tg' K b S := by
  obtain ⟨e1, e2⟩ := upNew d.fr d.new u
  exact ⟨e1, u.ok, e2, d.hp.other d.fr.wf hk u⟩
end
theorem rem9 (x : Int) : ∃ n : Int, IntKind.i64.wrap ((IntKind.u64.wrap x).tmod 9) = n ∧ 0 ≤ n ∧ n ≤ 8 := by
  refine ⟨_, rfl, ?_⟩
  have h0 : 0 ≤ IntKind.u64.wrap x := by simp [IntKind.wrap, IntKind.bits, IntKind.signed]; omega
  have h1 := Int.tmod_nonneg 9 h0
  have h2 := Int.tmod_lt_of_pos (IntKind.u64.wrap x) (show (0 : Int) < 9 by omega)
  rw [wrap64 (by omega) (by omega)]
  omega
theorem count_takeT {L : List Int} {j : Nat} (hj : j < L.length) (a : Int) : (L.take (j + 1)).count a = (L.take j).count a + (if nth L (j : Int) = a then 1 else 0) := by
  rw [take_nth hj, List.count_append, List.count_singleton]
  congr 1
  by_cases h : nth L (j : Int) = a <;> simp [h]
/-- What an act leaves. -/
def Kept (A : Int) (H0 : AHeap) (b kb : Nat) (Q : Rp) (o : Int) (r : AV) (K : AHeap) : Prop :=
  r = .bool true ∧ ∃ tg' S' Q', Kc H0 tg' K b kb S' Q' ∧ Both (A + 1) S' Q' ∧ phi Q' ≤ phi Q + 12 ∧ Dry Q' ∧ (Noted Q → Noted Q') ∧ (o = 6 → Q'.notes = [])
theorem c532 (D : D532 T) {H0 H : AHeap} {tg : Tags} {b kb : Nat} {S : Hp} {Q : Rp} {A : Int} (c : Kc H0 tg H b kb S Q) (hB : Both A S Q) (hA : A ≤ 2 ^ 40) (hA1 : 1 ≤ A) (hp : phi Q < 2 ^ 29) (hd : Dry Q) {o x y z : Int} {s : List UInt8} :
    Calls T 532 [.ptr (some (kb, 0)), .agg [.int .i64 o, .int .i64 x, .int .i64 y, .int .i64 z, .str s]] H fun r K => Kept A H0 b kb Q o r K := by
  refine Calls.fn D.pr D.fn ?_
  have w0 := c.d.fr.wf
  have f0 := w0.fr_new (cs := [.int .i64 o, .int .i64 x, .int .i64 y, .int .i64 z, .str s])
  have bx : Bx tg (H.new [.int .i64 o, .int .i64 x, .int .i64 y, .int .i64 z, .str s]) H.next H.next [.int .i64 o, .int .i64 x, .int .i64 y, .int .i64 z, .str s] := Bx.new c.d.ok
  obtain ⟨K, hK⟩ : ∃ K, H.new [.int .i64 o, .int .i64 x, .int .i64 y, .int .i64 z, .str s] = K := ⟨_, rfl⟩
  rw [hK] at bx f0
  have d1 := c.d.free f0
  have kr := c.kr.fr w0 f0
  have ld : ∀ {X : AHeap} {tg' : Tags}, Bx tg' X H.next H.next [.int .i64 o, .int .i64 x, .int .i64 y, .int .i64 z, .str s] →
      rsem (.ld 1 false) [.ptr (some (H.next, 0))] X = some (.int .i64 o) ∧ rsem (.ld 1 false) [.ptr (some (H.next, 1))] X = some (.int .i64 x) ∧ rsem (.ld 1 false) [.ptr (some (H.next, 2))] X = some (.int .i64 y) ∧ rsem (.ld 1 false) [.ptr (some (H.next, 3))] X = some (.int .i64 z) ∧ rsem (.ld 1 false) [.ptr (some (H.next, 4))] X = some (.str s) := by
    intro X tg' b
    simp [rsem, AHeap.ld, b.box.row]
  obtain ⟨l0, l1, l2, l3, l4⟩ := ld bx
  obtain ⟨fk, fv, rv, tv, f1, f2, f3, kj⟩ := kr
  have qn : ∀ c ∈ Q.cells, 0 ≤ c.n := fun c hc => (hB.good.n c hc).1
  have hl100 := hB.good.shp.len
  simp [ir532, AV.cells, AV.cell, hK, l0]
  refine WB.dec ?_ ?_
  · intro h0
    subst h0
    obtain ⟨n, hn, n0, n8⟩ := rem9 x
    simp [l1, l2, hn, kj.ld0]
    refine WC.of (p343 D.d343 d1.fr.wf d1.ok d1.hp hB hA hA1 hp) ?_
    rintro r K1 ⟨rfl, S1, ⟨tg1, u1, h1⟩, e1⟩
    have d2 := d1.up u1 h1
    have kj1 := kj.other d1.fr.wf (by decide) u1
    have m1 := (make_law hd n (decide (y.tmod 2 = 0))).1
    have t1 := told_make qn n (decide (y.tmod 2 = 0))
    by_cases hc : Q.cells.length = 100
    · rw [make_full _ n0 n8 hc] at e1 m1 t1
      rw [make_full _ n0 n8 hc]
      simp
      exact ⟨rfl, tg1, S1, Q, ⟨d2, _, _, _, _, _, _, _, kj1⟩, e1.both.mono (by omega), e1.ph, m1, t1.noted, by simp⟩
    · obtain ⟨g1, g2, g3, g4⟩ := make_lists (decide (y.tmod 2 = 0)) n0 n8 hc
      obtain ⟨v1, H1, tgA, fa, a1, a2, kjA⟩ := kj1.push1 d2.fr.wf d2.ok n (by simp [lfQ]; omega)
      obtain ⟨v2, H2, tgB, fb, b1, b2, kjB⟩ := kjA.push2 a2.wf a2.ok 0 (by simp [lrQ]; omega)
      obtain ⟨v3, H3, tgC, fc, c1, c2, kjC⟩ := kjB.push3 b2.wf b2.ok false (by simp [ltQ]; omega)
      obtain ⟨H4, p1, p2, kj4⟩ := kjC.stBox c2.wf c2.ok (off := 1) (v := v1) (by simp) kjC.o1.1.form.1
      obtain ⟨H5, q1, q2, kj5⟩ := kj4.stBox p2.wf p2.ok (off := 2) (v := v2) (by simp) kj4.o2.1.form.1
      obtain ⟨H6, r1, r2, kj6⟩ := kj5.stBox q2.wf q2.ok (off := 3) (v := v3) (by simp) kj5.o3.1.form.1
      have kj6 : KJ 9 tgC H6 kb fk [.ptr (some (b, 0)), v1, v2, v3] v1 v2 v3 fa fb fc (lfQ Q ++ [n]) (lrQ Q ++ [0]) (ltQ Q ++ [false]) := by simpa using kj6
      have kn1 := kj1.fr d2.fr.wf (d2.fr.wf.fr_new (cs := [.int .i64 n]))
      have kn2 := kjA.fr a2.wf (a2.wf.fr_new (cs := [.int .i64 0]))
      have kn3 := kjB.fr b2.wf (b2.wf.fr_new (cs := [.bool false]))
      have hb1 := wsem0_bsl1 (v := .int .i64 n) (z := .int .i64 0) (H := K1) rfl
      have hb2 := wsem0_bsl1 (v := .int .i64 0) (z := .int .i64 0) (H := H1) rfl
      have hb3 := wsem0_bsl1 (v := .bool false) (z := .bool false) (H := H2) rfl
      rw [g1]
      simp
      refine W_floats ?_
      simp [kj1.ld1, hb1, a1, kjA.ld2, hb2, b1, kjB.ld3, hb3, c1, p1, q1, r1]
      simp [floatOk, wanted, AV.same_refl, kj1.ld1, kj1.ld2, kj1.ld3, kn1.ld1, kn1.ld2, kn1.ld3, kjA.ld1, kjA.ld2, kjA.ld3, kn2.ld1, kn2.ld2, kn2.ld3, kjB.ld1, kjB.ld2, kjB.ld3, kn3.ld1, kn3.ld2, kn3.ld3, kjC.ld1, kjC.ld2, kjC.ld3]
      have d6 : Uno H0 tgC H6 b S1 := (((((d2.other (by decide) a2).other (by decide) b2).other (by decide) c2).other (by decide) p2).other (by decide) q2).other (by decide) r2
      have len6 := kj6.o1.1.len
      have lfl : (lfQ Q ++ [n]).length = Q.cells.length + 1 := by simp [lfQ]
      rw [lfl] at len6
      have hw1 : IntKind.i64.wrap ((Q.cells.length : Int) + 1 - 1) = Q.cells.length := by rw [wrap64 (by omega) (by omega)]; omega
      have hw2 : IntKind.i64.wrap (Q.cells.length : Int) = Q.cells.length := wrap64 (by omega) (by omega)
      simp [kj6.ld1, len6, hw1, hw2]
      refine ⟨rfl, tgC, S1, _, ⟨d6, ?_⟩, e1.both.mono (by omega), e1.ph, m1, t1.noted, by simp⟩
      rw [g2, g3, g4]
      exact ⟨_, _, _, _, _, _, _, kj6⟩
  · intro h0
    simp
    refine WB.dec ?_ ?_
    · intro h1
      subst h1
      simp [l1, l2, l3, l4, kj.ld0]
      refine WC.of (p345 D.d345 d1.fr.wf d1.ok d1.hp hB hA hp) ?_
      rintro r K1 ⟨rfl, S1, ⟨tg1, u1, h1⟩, e1⟩
      have kj1 := kj.other d1.fr.wf (by decide) u1
      have m1 := set_law hd x y z (decide (s ≠ []))
      have t1 := told_set hB x y z (decide (s ≠ []))
      have ln := lns_set Q x y z (decide (s ≠ []))
      simp at m1 e1 t1 ln
      rw [← ln.lf, ← ln.lr m1.2, ← ln.lt fun a => by rw [t1.told]; rfl] at kj1
      simp
      exact ⟨rfl, tg1, S1, _, ⟨d1.up u1 h1, _, _, _, _, _, _, _, kj1⟩, e1.both.mono (by omega), e1.ph, m1.1, t1.noted, by simp⟩
    · intro h1
      simp
      refine WB.dec ?_ ?_
      · intro h2
        subst h2
        simp [l1, l2, l3, l4, kj.ld0]
        refine WC.of (p346 D.d346 d1.fr.wf d1.ok d1.hp hB hA hp) ?_
        rintro r K1 ⟨rfl, S1, ⟨tg1, u1, h1⟩, e1⟩
        have kj1 := kj.other d1.fr.wf (by decide) u1
        have m1 := clear_law hd x y
        have t1 := told_clear (Q := Q) x y
        have ln := lns_clear Q x y
        rw [← ln.lf, ← ln.lr m1.2, ← ln.lt fun a => by rw [t1.told]; rfl] at kj1
        simp
        exact ⟨rfl, tg1, S1, _, ⟨d1.up u1 h1, _, _, _, _, _, _, _, kj1⟩, e1.both.mono (by omega), e1.ph, m1.1, t1.noted, by simp⟩
      · intro h2
        simp
        refine WB.dec ?_ ?_
        · intro h3
          subst h3
          simp [l1, l2, l3, l4, kj.ld0]
          refine WC.of (p324 D.d324 d1.fr.wf d1.ok d1.hp hB hA hp) ?_
          rintro r K1 ⟨rfl, S1, ⟨tg1, u1, h1⟩, e1⟩
          have d2 := d1.up u1 h1
          have kj1 := kj.other d1.fr.wf (by decide) u1
          have bx1 := bx.up d1.fr.wf u1
          obtain ⟨n0, n1, n2, n3, n4⟩ := ld bx1
          have m1 := root_law hd x
          have t1 := told_root hB x
          have ln := lns_root Q x
          have lt := ln.lt fun a => by rw [t1.told]; rfl
          by_cases hz : (rootQ Q x).2 = 0
          · have hin : 0 ≤ x ∧ x < Q.cells.length := by
              unfold rootQ at hz
              by_cases c1 : hasR Q.hp x true ≠ 0
              · rw [if_pos c1] at hz; exact absurd hz c1
              · obtain ⟨q1, q2, _⟩ := hasR_in (Decidable.not_not.1 c1)
                exact ⟨q1, by simpa using q2⟩
            have lrl : (lrQ Q).length = Q.cells.length := by simp [lrQ]
            have len := kj1.o2.1.len
            rw [lrl] at len
            have ia := kj1.o2.1.ia (k := .i64) hin.1 (by rw [lrl]; exact hin.2)
            have ldr := kj1.o2.1.ld hin.1 (by rw [lrl]; exact hin.2)
            have bn := hB.good.n _ (nth_mem hin.1 hin.2)
            have age0 : 0 ≤ age (nth Q.cells x) := by unfold age; split <;> omega
            have hnn : nth (lrQ Q) x = (nth Q.cells x).n := by unfold lrQ; rw [nth_mapB _ hin.1 hin.2]
            have hno : nOf Q x = (nth Q.cells x).n := by unfold nOf; rw [if_pos hin]
            have hw1 : IntKind.i64.wrap ((nth Q.cells x).n + 1) = (nth Q.cells x).n + 1 := wrap64 (by omega) (by omega)
            rw [hnn] at ldr
            obtain ⟨K2, s1, s2, s3⟩ := kj1.st2 d2.fr.wf d2.ok hin.1 (by rw [lrl]; exact hin.2) ((nth Q.cells x).n + 1)
            have lr1 := ln.lr1 hin.1 hin.2 (v := (nth Q.cells x).n + 1) fun a => by
              rw [m1.2]
              by_cases ha : a = x
              · subst ha; rw [if_pos ⟨hz, rfl⟩, if_pos rfl, hno]
              · rw [if_neg (fun c => ha c.2), if_neg ha]
            rw [← ln.lf, ← lr1, ← lt] at s3
            simp [hz, n1, hin.1, hin.2, kj1.ld2, len, ia, ldr, encI, hw1, s1]
            exact ⟨rfl, tg1, S1, _, ⟨d2.other (by decide) s2, _, _, _, _, _, _, _, s3⟩, e1.both, e1.ph, m1.1, t1.noted, by simp⟩
          · rw [← ln.lf, ← ln.lr fun a => by rw [m1.2, if_neg (fun c => hz c.1)], ← lt] at kj1
            simp [hz]
            exact ⟨rfl, tg1, S1, _, ⟨d2, _, _, _, _, _, _, _, kj1⟩, e1.both, e1.ph, m1.1, t1.noted, by simp⟩
        · intro h3
          simp
          refine WB.dec ?_ ?_
          · intro h4
            subst h4
            simp [l1, l2, l3, l4, kj.ld0]
            refine WC.of (p325 D.d325 d1.fr.wf d1.ok d1.hp hB hA hp) ?_
            rintro r K1 ⟨rfl, S1, ⟨tg1, u1, h1⟩, e1⟩
            have d2 := d1.up u1 h1
            have kj1 := kj.other d1.fr.wf (by decide) u1
            have bx1 := bx.up d1.fr.wf u1
            obtain ⟨n0, n1, n2, n3, n4⟩ := ld bx1
            have m1 := drop_law hd x
            have t1 := told_drop (Q := Q) x
            have ln := lns_drop Q x
            have lt := ln.lt fun a => by rw [t1.told]; rfl
            by_cases hz : (dropQ Q x).2 = 0
            · have hin : 0 ≤ x ∧ x < Q.cells.length := by
                unfold dropQ at hz
                by_cases c1 : hasR Q.hp x true ≠ 0
                · rw [if_pos c1] at hz; exact absurd hz c1
                · obtain ⟨q1, q2, _⟩ := hasR_in (Decidable.not_not.1 c1)
                  exact ⟨q1, by simpa using q2⟩
              have lrl : (lrQ Q).length = Q.cells.length := by simp [lrQ]
              have len := kj1.o2.1.len
              rw [lrl] at len
              have ia := kj1.o2.1.ia (k := .i64) hin.1 (by rw [lrl]; exact hin.2)
              have ldr := kj1.o2.1.ld hin.1 (by rw [lrl]; exact hin.2)
              have bn := hB.good.n _ (nth_mem hin.1 hin.2)
              have age0 : 0 ≤ age (nth Q.cells x) := by unfold age; split <;> omega
              have hnn : nth (lrQ Q) x = (nth Q.cells x).n := by unfold lrQ; rw [nth_mapB _ hin.1 hin.2]
              have hno : nOf Q x = (nth Q.cells x).n := by unfold nOf; rw [if_pos hin]
              have hw1 : IntKind.i64.wrap ((nth Q.cells x).n - 1) = (nth Q.cells x).n - 1 := wrap64 (by omega) (by omega)
              rw [hnn] at ldr
              obtain ⟨K2, s1, s2, s3⟩ := kj1.st2 d2.fr.wf d2.ok hin.1 (by rw [lrl]; exact hin.2) ((nth Q.cells x).n - 1)
              have lr1 := ln.lr1 hin.1 hin.2 (v := (nth Q.cells x).n - 1) fun a => by
                rw [m1.2]
                by_cases ha : a = x
                · subst ha; rw [if_pos ⟨hz, rfl⟩, if_pos rfl, hno]
                · rw [if_neg (fun c => ha c.2), if_neg ha]
              rw [← ln.lf, ← lr1, ← lt] at s3
              simp [hz, n1, hin.1, hin.2, kj1.ld2, len, ia, ldr, encI, hw1, s1]
              exact ⟨rfl, tg1, S1, _, ⟨d2.other (by decide) s2, _, _, _, _, _, _, _, s3⟩, e1.both.mono (by omega), e1.ph, m1.1, t1.noted, by simp⟩
            · rw [← ln.lf, ← ln.lr fun a => by rw [m1.2, if_neg (fun c => hz c.1)], ← lt] at kj1
              simp [hz]
              exact ⟨rfl, tg1, S1, _, ⟨d2, _, _, _, _, _, _, _, kj1⟩, e1.both.mono (by omega), e1.ph, m1.1, t1.noted, by simp⟩
          · intro h4
            simp
            refine WB.dec ?_ ?_
            · intro h5
              subst h5
              simp [kj.ld0]
              refine WC.of (p323 D.d323 d1.fr.wf d1.ok d1.hp hB hA hp) ?_
              rintro r K1 ⟨rfl, S1, ⟨tg1, u1, h1⟩, e1⟩
              have d2 := d1.up u1 h1
              have kj1 := kj.other d1.fr.wf (by decide) u1
              have m1 := next_law hA (2 ^ 29) hB hp (by omega) hd
              have t1 := (told_next hA (2 ^ 29) hB hp (by omega)).1
              have ln := lns_next hA (2 ^ 29) hB hp (by omega)
              obtain ⟨i1, i2, i3, i4, i5, i6⟩ := both_next hA (2 ^ 29) hB hp (by omega)
              obtain ⟨R, hR⟩ : ∃ R, nextQ (2 ^ 29) Q = R := ⟨_, rfl⟩
              rw [hR] at e1 m1 t1 ln i6
              rw [hR]
              clear i1 i2 i3 i4 i5
              obtain ⟨Q1, a, tell⟩ := R
              simp only at e1 m1 t1 ln i6
              cases tell with
              | false =>
                have lt := ln.lt fun a => by rw [t1.told]; simp
                rw [← ln.lf, ← ln.lr fun a => by rw [m1.2]; simp, ← lt] at kj1
                simp
                exact ⟨rfl, tg1, S1, _, ⟨d2, _, _, _, _, _, _, _, kj1⟩, e1.both.mono (by omega), e1.ph, m1.1, t1.noted, by simp⟩
              | true =>
                obtain ⟨_, a0, a1, _, _⟩ := i6 rfl
                have aQ : a < Q.cells.length := by rw [← ln.len]; exact a1
                have ltl : (ltQ Q).length = Q.cells.length := by simp [ltQ]
                have lrl : (lrQ Q).length = Q.cells.length := by simp [lrQ]
                -- it was not told
                have t2 := t1.told a
                have t3 := tOf_le Q1 a
                simp at t2
                have nf : nth (ltQ Q) a = false := by rw [tOf_nth a0 aQ]; simp; omega
                simp
                refine WC.of (c536 D.d536 d2.fr.wf d2.ok ⟨_, _, _, _, _, _, _, kj1⟩ a0 (by rw [ltl]; exact aQ) nf) ?_
                rintro r K2 ⟨rfl, u2, k2⟩
                have d3 := d2.other (by decide) u2
                obtain ⟨fk2, fv2, rv2, tv2, g1, g2, g3, kj2⟩ := k2
                have ia := kj2.o2.1.ia (k := .i64) a0 (by rw [lrl]; exact aQ)
                have ldr := kj2.o2.1.ld a0 (by rw [lrl]; exact aQ)
                have bn := hB.good.n _ (nth_mem a0 aQ)
                have age0 : 0 ≤ age (nth Q.cells a) := by unfold age; split <;> omega
                have hnn : nth (lrQ Q) a = (nth Q.cells a).n := by unfold lrQ; rw [nth_mapB _ a0 aQ]
                have hno : nOf Q a = (nth Q.cells a).n := by unfold nOf; rw [if_pos ⟨a0, aQ⟩]
                have hw1 : IntKind.i64.wrap ((nth Q.cells a).n + 1) = (nth Q.cells a).n + 1 := wrap64 (by omega) (by omega)
                rw [hnn] at ldr
                obtain ⟨K3, s1, s2, s3⟩ := kj2.st2 d3.fr.wf d3.ok a0 (by rw [lrl]; exact aQ) ((nth Q.cells a).n + 1)
                have lr1 := ln.lr1 a0 aQ (v := (nth Q.cells a).n + 1) fun c => by
                  rw [m1.2]
                  by_cases hc : c = a
                  · subst hc; rw [if_pos ⟨rfl, rfl⟩, if_pos rfl, hno]
                  · rw [if_neg (fun h => hc h.2), if_neg hc]
                have lt1 : ltQ Q1 = (ltQ Q).set a.toNat true := by
                  refine ext_nthU (by simp [ltQ, ln.len]) fun i i0 i1 => ?_
                  simp only [ltQ, List.length_map] at i1
                  have i2 : i < Q.cells.length := by rw [← ln.len]; exact i1
                  rw [tOf_nth i0 i1, nth_set a0 (by rw [ltl]; exact aQ) i0, tOf_nth i0 i2, t1.told]
                  by_cases hi : a = i
                  · subst hi; rw [if_pos rfl]; simp; omega
                  · rw [if_neg hi]
                    have : [a].count i = 0 := by rw [List.count_eq_zero]; simp [Ne.symm hi]
                    simp [this]
                rw [← ln.lf, ← lr1, ← lt1] at s3
                simp [kj2.ld2, ia, ldr, encI, hw1, s1]
                exact ⟨rfl, tg1, S1, _, ⟨d3.other (by decide) s2, _, _, _, _, _, _, _, s3⟩, e1.both.mono (by omega), e1.ph, m1.1, t1.noted, by simp⟩
            · intro h5
              simp [kj.ld0]
              refine WC.of (p339 D.d339 d1.fr.wf d1.ok d1.hp hB hA hp) ?_
              rintro r K1 ⟨S1, tg1, u1, h1, e1, fr1⟩
              have d2 := d1.up u1 h1
              have kj1 := kj.other d1.fr.wf (by decide) u1
              have dry1 := settle_law hA (n := 2 ^ 29) (2 ^ 29) hB (by omega) (by omega) (by omega) hd
              obtain ⟨t1, tn⟩ := told_settle hA (n := 2 ^ 29) (2 ^ 29) hB hp hp (by omega)
              obtain ⟨ln, nn⟩ := lns_settle hA (n := 2 ^ 29) (2 ^ 29) hB hp hp (by omega) hd
              have sl := settleQ_len (m := 2 ^ 29) (n := 2 ^ 29) (Q := Q)
              obtain ⟨R, hR⟩ : ∃ R, settleQ (2 ^ 29) (2 ^ 29) Q = R := ⟨_, rfl⟩
              rw [hR] at e1 dry1 t1 tn ln nn fr1 sl
              obtain ⟨Q1, l⟩ := R
              simp only at e1 dry1 t1 tn ln nn fr1 sl
              have ltl : (ltQ Q).length = Q.cells.length := by simp [ltQ]
              simp
              refine W_loop (fun (y : Nat) e X => e 0 = .ptr (some (kb, 0)) ∧ e 10 = r ∧ ∃ q : Nat, y + q = l.length ∧ e 11 = .int .i64 q ∧ Uno H0 tg1 X b S1 ∧ FreeX tg1 (fun _ => False) X r l ∧ ∃ td, KR 9 tg1 X b kb (lfQ Q) (lrQ Q) td ∧ td.length = Q.cells.length ∧ ∀ i : Int, 0 ≤ i → i < Q.cells.length → nth td i = decide (tOf Q i + (l.take q).count i = 1)) id l.length ?_ ?_
              · refine ⟨by simp, by simp, 0, by simp, by simp, d2, fr1.x.mono fun g hg => hg.elim, _, ⟨_, _, _, _, _, _, _, kj1⟩, ltl, fun i i0 i1 => ?_⟩
                rw [tOf_nth i0 i1, List.take_zero, List.count_nil, Nat.add_zero]
              · rintro y e X ⟨x0, x10, q, hq, x11, d, fx, td, kr, htl, htd⟩
                simp [x0, x10, x11, fx.sl.len]
                refine WB.dec ?_ ?_
                · intro hlt
                  have iaT := fx.sl.ia (k := .i64) (i := (q : Int)) (by omega) (by omega)
                  have ldT := fx.sl.ld (i := (q : Int)) (by omega) (by omega)
                  obtain ⟨a, ha⟩ : ∃ a, nth l (q : Int) = a := ⟨_, rfl⟩
                  rw [ha] at ldT
                  have ham : a ∈ l := by rw [← ha]; exact nth_mem (by omega) (by omega)
                  have hcp := List.count_pos_iff.2 ham
                  have t2 := t1.told a
                  have t3 := tOf_le Q1 a
                  have hct := count_takeT (L := l) (j := q) (by omega) a
                  rw [ha, if_pos rfl] at hct
                  have hsub : (l.take (q + 1)).count a ≤ l.count a := (List.take_sublist _ _).count_le a
                  have hin : 0 ≤ a ∧ a < Q.cells.length := by
                    have : tOf Q1 a ≠ 0 := by omega
                    unfold tOf at this
                    by_cases hc : 0 ≤ a ∧ a < Q1.cells.length ∧ (nth Q1.cells a).t = true
                    · exact ⟨hc.1, by rw [← ln.len]; exact hc.2.1⟩
                    · rw [if_neg hc] at this; exact absurd rfl this
                  have nf : nth td a = false := by rw [htd a hin.1 hin.2]; simp; omega
                  simp [x0, x10, x11, iaT, ldT, encI]
                  refine WC.of (c536 D.d536 d.fr.wf d.ok kr hin.1 (by rw [htl]; exact hin.2) nf) ?_
                  rintro r2 K2 ⟨rfl, u2, k2⟩
                  simp [x0, x10, x11]
                  refine ⟨y - 1, by omega, q + 1, by omega, by rw [wrap64 (by omega) (by omega)]; simp, d.other (by decide) u2, fx.up d.fr.wf u2, _, k2, by simp [htl], fun i i0 i1 => ?_⟩
                  rw [nth_set hin.1 (by rw [htl]; exact hin.2) i0, count_takeT (by omega), ha]
                  by_cases hi : a = i
                  · subst hi
                    rw [if_pos rfl, if_pos rfl]
                    simp; omega
                  · rw [if_neg hi, if_neg hi, htd i i0 i1, Nat.add_zero]
                · intro hlt
                  have hql : q = l.length := by omega
                  subst hql
                  have htq : td = ltQ Q1 := by
                    refine ext_nthU (by simp [ltQ, ln.len, htl]) fun i i0 i1 => ?_
                    rw [htl] at i1
                    rw [htd i i0 i1, tOf_nth i0 (by rw [ln.len]; exact i1), t1.told, List.take_length]
                  subst htq
                  rw [← ln.lf, ← ln.lr nn] at kr
                  simp
                  exact ⟨rfl, tg1, S1, Q1, ⟨d, kr⟩, e1.both.mono (by omega), e1.ph, dry1, t1.noted, fun _ => tn⟩
end Go.Am

/- TopCounts: the count of each cell is the number of references to it. -/
set_option linter.unusedVariables false
set_option linter.unusedSimpArgs false
namespace Go.Am
variable {T : Tab}
theorem Free.st {tg : Tags} {H : AHeap} {n : Nat} {v : AV} {l : List Int} (h : Free tg H n v l) (hw : WF H) {i : Int} (h0 : 0 ≤ i) (h1 : i < l.length) (x : Int) :
    ∃ K, wsem0 (.st 1) [elt v 1 i, .int .i64 x] H = some (.undef, K) ∧ WF K ∧ Free tg K n v (l.set i.toNat x) ∧ Keeps (fun g => n ≤ g ∧ tg g = Option.none) H K := by
  obtain ⟨f, q1, q2⟩ := h
  obtain ⟨K, r1, r2, r3, r4, r5⟩ := q1.stB hw h0 h1 x
  exact ⟨K, r1, r2, ⟨f, r4, q2⟩, r3.mono fun g hg => q2 g hg⟩
theorem Kc.step {H0 H K : AHeap} {tg : Tags} {b kb : Nat} {S : Hp} {Q : Rp} (c : Kc H0 tg H b kb S Q) (hw : WF K) {n : Nat} (hn : H0.next ≤ n) (k : Keeps (fun g => n ≤ g ∧ tg g = Option.none) H K) : Kc H0 tg K b kb S Q :=
  ⟨c.d.step hw hn k, c.kr.step c.d.fr.wf k⟩
theorem Kc.up {H0 H K : AHeap} {tg tg' : Tags} {b kb : Nat} {S : Hp} {Q : Rp} (c : Kc H0 tg H b kb S Q) (u : Up 0 tg tg' H K) (h : HpR 0 tg' K b 0 S) : Kc H0 tg' K b kb S Q :=
  ⟨c.d.up u h, c.kr.other c.d.fr.wf (by decide) u⟩
theorem Kc.free {H0 H K : AHeap} {tg : Tags} {b kb : Nat} {S : Hp} {Q : Rp} (c : Kc H0 tg H b kb S Q) (f : Fr H K) : Kc H0 tg K b kb S Q :=
  ⟨c.d.free f, c.kr.fr c.d.fr.wf f⟩
theorem val_full {Q : Rp} (h : Shp Q.cells) {i : Int} (i0 : 0 ≤ i) (i1 : i < Q.cells.length) (a : Int) : val Q i (nth Q.cells i).fs.length a = val Q (i + 1) 0 a := by
  rw [← val_end h i0]
  have := h.fl _ (nth_mem i0 i1)
  unfold val
  rw [if_pos i1, if_pos i1, List.take_length, List.take_of_length_le this]
theorem val_skip {Q : Rp} (h : Shp Q.cells) (d : Dry Q) {i : Int} (i0 : 0 ≤ i) (i1 : i < Q.cells.length) (he : (nth Q.cells i).e = true) (a : Int) : val Q i 0 a = val Q (i + 1) 0 a := by
  rw [← val_end h i0]
  have hl := h.fl _ (nth_mem i0 i1)
  have := d.cnt i0 i1 he a
  unfold val
  rw [if_pos i1, if_pos i1, List.take_of_length_le (l := (nth Q.cells i).fs) hl, this]
  simp [cnt]
theorem val_field {Q : Rp} {i : Int} (i0 : 0 ≤ i) (i1 : i < Q.cells.length) {q : Nat} (hq : q < (nth Q.cells i).fs.length) (a : Int) :
    val Q i (q + 1) a = val Q i q a + if strongTo a (nth (nth Q.cells i).fs (q : Int)) = true then 1 else 0 := by
  have e := cnt_take hq a
  unfold val
  rw [if_pos i1, if_pos i1, e]
  omega
theorem c533 (D : D533 T) {H0 H : AHeap} {tg : Tags} {b kb : Nat} {S : Hp} {Q : Rp} {A : Int} (c : Kc H0 tg H b kb S Q) (hB : Both A S Q) (hA : A ≤ 2 ^ 40) (hd : Dry Q) :
    Calls T 533 [.ptr (some (kb, 0))] H fun r K => r = .bool true ∧ ∃ tg', Kc H0 tg' K b kb S Q := by
  refine Calls.fn D.pr D.fn ?_
  have w0 := c.d.fr.wf
  have shp := hB.good.shp
  have hl100 := shp.len
  obtain ⟨fk, fv, rv, tv, f1, f2, f3, kj⟩ := c.kr
  have lrl : (lrQ Q).length = Q.cells.length := by simp [lrQ]
  have lfl : (lfQ Q).length = Q.cells.length := by simp [lfQ]
  obtain ⟨wv, X1, p1, p2, fw, p3, p4⟩ := app_made (bytes := 8) (H0 := H) (H := H) (.refl w0) (v := .slc none 0 0 none) (.nil : Made encI 1 H.next H _ []) kj.o2.1 (by simp) (fun y _ => rfl) (by rw [lrl]; simp; omega) (by rw [lrl]; simp; omega)
  rw [List.nil_append] at p3
  have fr1 : Free tg X1 H.next wv (lrQ Q) := ⟨fw, p3, fun g hg => ⟨p4 g hg, c.d.ok g (p4 g hg)⟩⟩
  have c1 := c.free p2
  have hH0 : H0.next ≤ H.next := c.d.fr.next
  have bnd : ∀ a, 0 ≤ nOf Q a ∧ nOf Q a ≤ 2 ^ 40 := nOf_bnd hB hA
  have vle : ∀ (i : Int) (i0 : 0 ≤ i) (q : Nat) (a : Int), val Q i q a ≤ 1000 := fun i i0 q a => val_le shp i0 q a
  simp [ir533, kj.ld2, p1]
  refine W_loop (fun (z : Nat) e X => e 0 = .ptr (some (kb, 0)) ∧ e 3 = wv ∧ ∃ j : Nat, z + j = Q.cells.length ∧ e 4 = .int .i64 j ∧ ∃ tg, Kc H0 tg X b kb S Q ∧ ∃ wl, Free tg X H.next wv wl ∧ wl.length = Q.cells.length ∧ ∀ a : Int, 0 ≤ a → a < Q.cells.length → nth wl a = nOf Q a + val Q j 0 a) id Q.cells.length ?_ ?_
  · refine ⟨by simp, by simp, 0, by simp, by simp, tg, c1, _, fr1, lrl, fun a a0 a1 => ?_⟩
    rw [nOf_nth a0 a1]
    unfold val
    split
    · simp [refs, cnt]
    · omega
  · rintro z e X ⟨x0, x3, j, hj, x4, tg1, c, wl, fr, hwl, hw⟩
    obtain ⟨fk, fv, rv, tv, f1, f2, f3, kj⟩ := c.kr
    have len := kj.o1.1.len
    rw [lfl] at len
    simp [x0, x3, x4, kj.ld1, len]
    refine WB.dec ?_ ?_
    · intro hlt
      have j1 : (j : Int) < Q.cells.length := by omega
      simp [x0, x3, x4, kj.ld0]
      refine WC.of (p340 D.d340 c.d.fr.wf c.d.ok c.d.hp hB) ?_
      rintro r K1 ⟨rfl, tg2, u2, h2⟩
      have fr := fr.up c.d.fr.wf u2
      have c := c.up u2 h2
      have hs : stateR Q.hp (j : Int) = if (nth Q.cells (j : Int)).e = true then (2, 0) else if (nth Q.cells (j : Int)).t = true then (1, 0) else (0, 0) := by
        unfold stateR
        have hz : hasR Q.hp (j : Int) false = 0 := by
          unfold hasR
          rw [if_neg (by simp only [Rp.hp_cells]; omega), if_neg (by simp)]
        rw [if_neg (by simp [hz])]; rfl
      cases he : (nth Q.cells (j : Int)).e with
      | true =>
        rw [he] at hs
        simp at hs
        rw [hs]
        simp [x0, x3, x4]
        refine ⟨z - 1, by omega, j + 1, by omega, by rw [wrap64 (by omega) (by omega)]; simp, tg2, c, wl, fr, hwl, fun a a0 a1 => ?_⟩
        rw [hw a a0 a1, val_skip shp hd (by omega) j1 he]; simp
      | false =>
        have hs1 : (stateR Q.hp (j : Int)).2 = 0 ∧ (stateR Q.hp (j : Int)).1 ≠ 2 := by
          rw [hs, he]; simp; split <;> simp
        simp [x0, x3, x4, hs1]
        refine W_loop (fun (y : Nat) e X => e 0 = .ptr (some (kb, 0)) ∧ e 3 = wv ∧ e 4 = .int .i64 j ∧ ∃ q : Nat, y + q = (nth Q.cells (j : Int)).fs.length ∧ e 7 = .int .i64 q ∧ ∃ tg, Kc H0 tg X b kb S Q ∧ ∃ wl, Free tg X H.next wv wl ∧ wl.length = Q.cells.length ∧ ∀ a : Int, 0 ≤ a → a < Q.cells.length → nth wl a = nOf Q a + val Q j q a) id (nth Q.cells (j : Int)).fs.length ?_ ?_
        · exact ⟨by simp [x0], by simp [x3], by simp [x4], 0, by simp, by simp, tg2, c, wl, fr, hwl, hw⟩
        · rintro y e X ⟨x0, x3, x4, q, hq, x7, tg3, c, wl, fr, hwl, hw⟩
          obtain ⟨fk, fv, rv, tv, f1, f2, f3, kj⟩ := c.kr
          have ia := kj.o1.1.ia (k := .i64) (i := (j : Int)) (by omega) (by rw [lfl]; exact j1)
          have ldf := kj.o1.1.ld (i := (j : Int)) (by omega) (by rw [lfl]; exact j1)
          have hnf : nth (lfQ Q) (j : Int) = (nth Q.cells (j : Int)).fs.length := by unfold lfQ; rw [nth_mapB _ (by omega) j1]
          rw [hnf] at ldf
          simp [x0, x3, x4, x7, kj.ld1, ia, ldf, encI]
          refine WB.dec ?_ ?_
          · intro hlt
            have hql : q < (nth Q.cells (j : Int)).fs.length := by omega
            have hf8 := shp.fl _ (nth_mem (l := Q.cells) (i := (j : Int)) (by omega) j1)
            simp [x0, x3, x4, x7, kj.ld0]
            refine WC.of (p344 D.d344 c.d.fr.wf c.d.ok c.d.hp hB) ?_
            rintro r K2 ⟨rfl, tg4, u4, h4⟩
            have fr := fr.up c.d.fr.wf u4
            have c := c.up u4 h4
            have hz : hasFieldR Q.hp j q = 0 := hasFieldR_ok (by omega) (by simpa using j1) (by simpa using he) (by omega) (by simp only [Rp.hp_cells]; omega)
            have hg : getR Q.hp j q = (nth (nth Q.cells (j : Int)).fs (q : Int), 0) := by unfold getR; rw [if_neg (by simp [hz])]; rfl
            rw [hg]
            have vf := fun a => val_field (Q := Q) (i := (j : Int)) (by omega) j1 hql a
            have hto := hB.good.to _ (nth_mem (by omega) j1) (nth (nth Q.cells (j : Int)).fs (q : Int)) (nth_mem (by omega) (by omega))
            obtain ⟨f, hf⟩ : ∃ f, nth (nth Q.cells (j : Int)).fs (q : Int) = f := ⟨_, rfl⟩
            rw [hf] at hto
            simp only [hf] at vf
            rw [hf]
            have keep : ¬(f.is = true ∧ f.weak = false) → ∃ y', y' < y ∧ ∃ q', y' + q' = (nth Q.cells (j : Int)).fs.length ∧ IntKind.i64.wrap ((q : Int) + 1) = (q' : Int) ∧ ∃ tg, Kc H0 tg K2 b kb S Q ∧ ∃ wl, Free tg K2 H.next wv wl ∧ wl.length = Q.cells.length ∧ ∀ a : Int, 0 ≤ a → a < Q.cells.length → nth wl a = nOf Q a + val Q j q' a := by
              intro hc
              refine ⟨y - 1, by omega, q + 1, by omega, by rw [wrap64 (by omega) (by omega)]; simp, tg4, c, wl, fr, hwl, fun a a0 a1 => ?_⟩
              rw [hw a a0 a1, vf, if_neg]
              · simp
              · intro hst
                exact hc ⟨(strong_eq.1 hst).1, (strong_eq.1 hst).2.1⟩
            cases hi : f.is with
            | false =>
              simp [x0, x3, x4, x7]
              exact keep (by simp [hi])
            | true =>
              obtain ⟨t0, t1⟩ := hto hi
              have hn0 : ¬f.to < 0 := by omega
              have hn1 : ¬(Q.cells.length : Int) ≤ f.to := by omega
              have wlen := fr.sl.len
              rw [hwl] at wlen
              cases hwk : f.weak with
              | true =>
                simp [x0, x3, x4, x7, wlen, hn0, hn1]
                exact keep (by simp [hwk])
              | false =>
                have ia2 := fr.sl.ia (k := .i64) t0 (by rw [hwl]; exact t1)
                have ld2 := fr.sl.ld t0 (by rw [hwl]; exact t1)
                rw [hw f.to t0 t1] at ld2
                have b1 := bnd f.to
                have b2 := vle j (by omega) q f.to
                have hw1 : IntKind.i64.wrap (nOf Q f.to + val Q j q f.to + 1) = nOf Q f.to + val Q j q f.to + 1 := wrap64 (by omega) (by omega)
                obtain ⟨K3, s1, s2, s3, s4⟩ := fr.st c.d.fr.wf t0 (by rw [hwl]; exact t1) (nOf Q f.to + val Q j q f.to + 1)
                simp [x0, x3, x4, x7, wlen, hn0, hn1, ia2, ld2, encI, hw1, s1]
                refine ⟨y - 1, by omega, q + 1, by omega, by rw [wrap64 (by omega) (by omega)]; simp, tg4, c.step s2 hH0 s4, _, s3, by simp [hwl], fun a a0 a1 => ?_⟩
                rw [nth_set t0 (by rw [hwl]; exact t1) a0, vf]
                by_cases ha : f.to = a
                · subst ha
                  rw [if_pos rfl, if_pos (strong_eq.2 ⟨hi, hwk, rfl⟩)]
                  simp; omega
                · rw [if_neg ha, if_neg (fun h => ha (strong_eq.1 h).2.2), hw a a0 a1]; simp
          · intro hlt
            have hql : q = (nth Q.cells (j : Int)).fs.length := by omega
            subst hql
            simp [x0, x3, x4]
            refine ⟨z - 1, by omega, j + 1, by omega, by rw [wrap64 (by omega) (by omega)]; simp, tg3, c, wl, fr, hwl, fun a a0 a1 => ?_⟩
            rw [hw a a0 a1, val_full shp (by omega) j1]; simp
    · intro hlt
      have hjn : j = Q.cells.length := by omega
      subst hjn
      have hv : ∀ a, val Q (Q.cells.length : Int) 0 a = refs Q.cells a := fun a => by unfold val; rw [if_neg (by omega)]
      simp only [hv] at hw
      simp [x0, x3]
      refine W_loop (fun (y : Nat) e X => e 0 = .ptr (some (kb, 0)) ∧ e 3 = wv ∧ ∃ i : Nat, y + i = Q.cells.length ∧ e 12 = .int .i64 i ∧ ∃ tg, Kc H0 tg X b kb S Q ∧ Free tg X H.next wv wl) id Q.cells.length ?_ ?_
      · exact ⟨by simp [x0], by simp [x3], 0, by simp, by simp, tg1, c, fr⟩
      · rintro y e X ⟨x0, x3, i, hi, x12, tg2, c, fr⟩
        have wlen := fr.sl.len
        rw [hwl] at wlen
        simp [x0, x3, x12, wlen]
        refine WB.dec ?_ ?_
        · intro hlt
          have i1 : (i : Int) < Q.cells.length := by omega
          obtain ⟨fk, fv, rv, tv, f1, f2, f3, kj⟩ := c.kr
          simp [x0, x3, x12, kj.ld0]
          refine WC.of (p341 D.d341 c.d.fr.wf c.d.ok c.d.hp hB) ?_
          rintro r K1 ⟨rfl, tg3, u3, h3⟩
          have fr := fr.up c.d.fr.wf u3
          have c := c.up u3 h3
          have hcn : countQ Q (i : Int) = (nOf Q i + refs Q.cells i, 0) := by
            unfold countQ
            have hz : hasR Q.hp (i : Int) false = 0 := by
              unfold hasR
              rw [if_neg (by simp only [Rp.hp_cells]; omega), if_neg (by simp)]
            rw [if_neg (by simp [hz]), hB.good.counted (by omega) i1]
            unfold nOf
            rw [if_pos ⟨by omega, i1⟩]
          have ia := fr.sl.ia (k := .i64) (i := (i : Int)) (by omega) (by rw [hwl]; exact i1)
          have ld := fr.sl.ld (i := (i : Int)) (by omega) (by rw [hwl]; exact i1)
          rw [hw i (by omega) i1] at ld
          rw [hcn]
          simp [x0, x3, x12, ia, ld, encI]
          exact ⟨y - 1, by omega, i + 1, by omega, by rw [wrap64 (by omega) (by omega)]; simp, tg3, c, fr⟩
        · intro hlt
          simp
          exact ⟨tg2, c⟩
end Go.Am

/- TopCounts: what is lost hangs on cycles. -/
set_option linter.unusedVariables false
set_option linter.unusedSimpArgs false
namespace Go.Am
variable {T : Tab}
/-- A list of bools of nobody, of no family in E. -/
def FreeB (tg : Tags) (E : Nat → Prop) (H : AHeap) (v : AV) (l : List Bool) : Prop := ∃ f, Own encB 1 H v l f ∧ ∀ g, f = some g → ¬E g ∧ tg g = Option.none
section
variable {H K : AHeap} {tg tg' : Tags} {k : Nat} {E : Nat → Prop} {v : AV} {l : List Bool}
theorem FreeB.sl (h : FreeB tg E H v l) : Sl encB 1 H v l := h.choose_spec.1.1
theorem FreeB.mono {E' : Nat → Prop} (h : FreeB tg E H v l) (hE : ∀ g, E' g → E g) : FreeB tg E' H v l := by
  obtain ⟨f, h1, h2⟩ := h
  exact ⟨f, h1, fun g hg => ⟨fun e => (h2 g hg).1 (hE g e), (h2 g hg).2⟩⟩
theorem FreeB.late (h : FreeB tg E H v l) (hw : WF H) : FreeB tg (fun g => E g ∨ H.next ≤ g) H v l := by
  obtain ⟨f, h1, h2⟩ := h
  refine ⟨f, h1, fun g hg => ⟨?_, (h2 g hg).2⟩⟩
  subst hg
  have := h1.2.lt hw
  rintro (e | e)
  · exact (h2 g rfl).1 e
  · omega
theorem FreeB.up (h : FreeB tg E H v l) (hw : WF H) (u : Up k tg tg' H K) : FreeB tg' E K v l := by
  obtain ⟨f, h1, h2⟩ := h
  have hno : ∀ g, f = some g → ¬tg.own k g := by
    rintro g hg ⟨t, ht⟩
    rw [(h2 g hg).2] at ht; cases ht
  refine ⟨f, h1.keeps hw u.keeps hno, fun g hg => ⟨(h2 g hg).1, ?_⟩⟩
  have hl := h1.2
  rw [hg] at hl
  have hl := hl.lt hw
  rcases u.tag g with e | ⟨e, _⟩
  · rw [e]; exact (h2 g hg).2
  · rcases e with e | e
    · exact absurd e (hno g hg)
    · omega
theorem FreeB.step {D : Nat → Prop} (h : FreeB tg E H v l) (hw : WF H) (f : Keeps D H K) (hD : ∀ g, D g → E g) : FreeB tg E K v l := by
  obtain ⟨ff, h1, h2⟩ := h
  exact ⟨ff, h1.keeps hw f fun g hg hd => (h2 g hg).1 (hD g hd), h2⟩
end
structure Od (H0 : AHeap) (tg : Tags) (H : AHeap) (b kb : Nat) (S : Hp) (Q : Rp) (fd : Nat) (ov : AV) (ol : List Bool) (lv : AV) (lbs : List Bool) : Prop where
  c : Kc H0 tg H b kb S Q
  out : Own encB 1 H ov ol (some fd)
  no : tg fd = none
  ge : H0.next ≤ fd
  lo : FreeB tg (fun g => g = fd) H lv lbs
  len : ol.length = Q.cells.length
section
variable {H0 H K : AHeap} {tg tg' : Tags} {b kb fd : Nat} {S : Hp} {Q : Rp} {ov lv : AV} {ol lbs : List Bool}
theorem Od.up (h : Od H0 tg H b kb S Q fd ov ol lv lbs) (u : Up 0 tg tg' H K) (hp : HpR 0 tg' K b 0 S) : Od H0 tg' K b kb S Q fd ov ol lv lbs := by
  have w := h.c.d.fr.wf
  have hno : ¬tg.own 0 fd := by rintro ⟨t, ht⟩; rw [h.no] at ht; cases ht
  have hlt := h.out.2.lt w
  refine ⟨h.c.up u hp, h.out.keeps w u.keeps fun g hg => by cases hg; exact hno, ?_, h.ge, h.lo.up w u, h.len⟩
  rcases u.tag fd with e | ⟨e, _⟩
  · rw [e]; exact h.no
  · rcases e with e | e
    · exact absurd e hno
    · omega
theorem Od.put (h : Od H0 tg H b kb S Q fd ov ol lv lbs) {i : Int} (h0 : 0 ≤ i) (h1 : i < Q.cells.length) :
    ∃ K, wsem0 (.st 1) [elt ov 1 i, .bool true] H = some (.undef, K) ∧ Od H0 tg K b kb S Q fd ov (ol.set i.toNat true) lv lbs ∧ Keeps (fun g => g = fd) H K := by
  have w := h.c.d.fr.wf
  obtain ⟨K, r1, r2, r3, r4, r5⟩ := h.out.stB w h0 (by rw [h.len]; exact h1) true
  have k : Keeps (fun g => g = fd) H K := r3.mono fun g hg => (Option.some.inj hg).symm
  have no := h.no
  exact ⟨K, r1, ⟨h.c.step r2 h.ge (k.mono fun g hg => by subst hg; exact ⟨Nat.le_refl _, no⟩), r4, h.no, h.ge, h.lo.step w k fun g hg => hg, by simp [h.len]⟩, k⟩
end
theorem take_memT {L : List Int} {j : Nat} (hj : j < L.length) (c : Int) : c ∈ L.take (j + 1) ↔ c = nth L (j : Int) ∨ c ∈ L.take j := by
  rw [take_nth hj]; simp [or_comm]
theorem set_mono {ol : List Bool} {i j : Int} (h0 : 0 ≤ i) (h1 : i < ol.length) (hj : 0 ≤ j) (h : nth ol j = true) : nth (ol.set i.toNat true) j = true := by
  rw [nth_set h0 h1 hj]; split
  · rfl
  · exact h
theorem set_self {ol : List Bool} {i : Int} (h0 : 0 ≤ i) (h1 : i < ol.length) : nth (ol.set i.toNat true) i = true := by
  rw [nth_set h0 h1 h0, if_pos rfl]
theorem cyc_range (M : Nat → Nat → Bool) (n : Nat) (lo : Nat → Nat) : ∀ k, ∀ x ∈ (cycGo M n lo k).2, ∀ i ∈ x, i < n
  | 0 => by simp [cycGo]
  | k + 1 => by
    intro x hx i hi
    unfold cycGo at hx
    split at hx
    · exact cyc_range M n lo k x hx i hi
    · rcases List.mem_append.1 hx with q | q
      · exact cyc_range M n lo k x q i hi
      · rw [List.mem_singleton] at q; subst q
        unfold grp at hi
        exact List.mem_range.1 (List.mem_filter.1 hi).1
theorem c534 (D : D534 T) {H0 H : AHeap} {tg : Tags} {b kb : Nat} {S : Hp} {Q : Rp} {A : Int} (c : Kc H0 tg H b kb S Q) (hB : Both A S Q) (hd : Dry Q) {lv : AV} {lbs : List Bool} (lo : FreeB tg (fun _ => False) H lv lbs) (hll : lbs.length = Q.cells.length)
    {L : List Int} (hL : ∀ i : Int, 0 ≤ i → i < Q.cells.length → (nth lbs i = true ↔ i ∈ L)) (hLin : ∀ i ∈ L, 0 ≤ i ∧ i < Q.cells.length) (hLlen : L.length ≤ Q.cells.length) (hpred : ∀ i ∈ L, ∃ j ∈ L, i ∈ strongs (nth S.cells j).fs) :
    Calls T 534 [.ptr (some (kb, 0)), lv] H fun r K => ∃ tg' ol, Kc H0 tg' K b kb S Q ∧ FreeB tg' (fun _ => False) K lv lbs ∧ FreeB tg' (fun _ => False) K r ol ∧ ol.length = Q.cells.length ∧ ∀ i ∈ L, nth ol i = true := by
  refine Calls.fn D.pr D.fn ?_
  have w0 := c.d.fr.wf
  have g := graph hB hd
  obtain ⟨g1, g2, g3, g4⟩ := both_graph hB g
  have hSQ := hB.sim.len
  have shp := hB.good.shp
  obtain ⟨n, hn⟩ : ∃ n, Q.cells.length = n := ⟨_, rfl⟩
  have hl100 := shp.len
  rw [hn] at hl100 hll hL hLin hLlen
  obtain ⟨fk, fv, rv, tv, f1, f2, f3, kj⟩ := c.kr
  have lfl : (lfQ Q).length = n := by simp [lfQ, hn]
  have len := kj.o1.1.len
  rw [lfl] at len
  -- out
  have hmk := wsem0_mks (bytes := 1) (n := n) (zero := [AV.bool false]) (k := .i64) (l := .i64) (H := H) (by omega) (by simp) rfl (by omega)
  have ow := w0.own_new (enc := encB) (sz := 1) (l := List.replicate n false) (cs := (List.replicate n [AV.bool false]).flatten) (cap := some n) (by intro x _; rfl) (by simp) (by simp) (by
    rw [flat_bools]
    rw [List.take_of_length_le]
    rw [flat_len (sz := 1) (by intro x _; rfl)]
    simp)
  simp only [List.length_replicate] at ow
  have fr1 := w0.fr_new (cs := (List.replicate n [AV.bool false]).flatten)
  obtain ⟨X1, hX1⟩ : ∃ X, H.new (List.replicate n [AV.bool false]).flatten = X := ⟨_, rfl⟩
  have nX1 : X1.next = H.next + 1 := by rw [← hX1]; rfl
  rw [hX1] at hmk ow fr1
  simp only [List.length_cons, List.length_nil, Nat.zero_add] at hmk
  obtain ⟨ov, hov⟩ : ∃ v, AV.slc (some (H.next, 0)) 1 n (some n) = v := ⟨_, rfl⟩
  rw [hov] at ow hmk
  obtain ⟨fd, hfd⟩ : ∃ x, H.next = x := ⟨_, rfl⟩
  rw [hfd] at ow
  have lo1 : FreeB tg (fun g => g = fd) X1 lv lbs := by
    have := (lo.late w0).mono (E' := fun g => H.next ≤ g) fun g hg => .inr hg
    exact (this.step w0 fr1.keeps fun g hg => hg).mono fun g hg => by omega
  have od0 : Od H0 tg X1 b kb S Q fd ov (List.replicate n false) lv lbs := ⟨c.free fr1, ow, c.d.ok fd (by omega), by rw [← hfd]; exact c.d.fr.next, lo1, by simp [hn]⟩
  have kj1 := kj.fr w0 fr1
  simp [ir534, kj.ld1, len, hmk, kj1.ld0]
  refine WC.of (c337 D.d337 od0.c.d.fr.wf od0.c.d.ok od0.c.d.hp g1 g2) ?_
  rintro cv K2 ⟨tg2, u2, h2, fc⟩
  have od := od0.up u2 h2
  have hcl := cyc_len (lm S.cells) S.cells.length (fun _ => 0) S.cells.length
  have hcm := cyc_mem (lm S.cells) S.cells.length (fun _ => 0) S.cells.length
  have hcr := cyc_range (lm S.cells) S.cells.length (fun _ => 0) S.cells.length
  obtain ⟨Z, hZ⟩ : ∃ Z, (cycGo (lm S.cells) S.cells.length (fun _ => 0) S.cells.length).2.map ints = Z := ⟨_, rfl⟩
  have hZl : Z.length ≤ 100 := by rw [← hZ, List.length_map]; omega
  have hZm : ∀ x ∈ Z, x.length ≤ 100 ∧ ∀ i ∈ x, 0 ≤ i ∧ i < n := by
    intro x hx
    rw [← hZ] at hx
    obtain ⟨y, hy, rfl⟩ := List.mem_map.1 hx
    refine ⟨by rw [ints_len]; have := hcm y hy; omega, fun i hi => ?_⟩
    unfold ints at hi
    obtain ⟨q, hq, rfl⟩ := List.mem_map.1 hi
    have := hcr y hy q hq
    omega
  have hbase : ∀ i ∈ L, (∃ c ∈ strongs (nth S.cells i).fs, Reach S.cells c i) → ∃ x ∈ Z, i ∈ x := by
    intro i hi hc
    obtain ⟨i0, i1⟩ := hLin i hi
    have e : ((i.toNat : Nat) : Int) = i := by omega
    obtain ⟨x, hx, hix⟩ := cyc_all (lm S.cells) (n := S.cells.length) (i := i.toNat) (by omega) (by rw [lm_iff, e]; exact hc)
    refine ⟨ints x, by rw [← hZ]; exact List.mem_map_of_mem hx, ?_⟩
    unfold ints
    exact List.mem_map.2 ⟨i.toNat, hix, e⟩
  rw [hZ] at fc
  replace fc : FreeL tg2 (fun g => g < X1.next) K2 cv Z := fc
  have hfdX : fd < X1.next := by omega
  simp
  refine W_loop (fun (z : Nat) e X => e 0 = .ptr (some (kb, 0)) ∧ e 1 = lv ∧ e 5 = ov ∧ e 6 = cv ∧ ∃ j : Nat, z + j = Z.length ∧ e 7 = .int .i64 j ∧ FreeL tg2 (fun g => g < X1.next) X cv Z ∧ ∃ ol, Od H0 tg2 X b kb S Q fd ov ol lv lbs ∧ ∀ q : Nat, q < j → ∀ c ∈ nth Z (q : Int), c ∈ L → nth ol c = true) id Z.length ?_ ?_
  · exact ⟨by simp, by simp, by simp, by simp, 0, by simp, by simp, fc, _, od, fun q hq => by omega⟩
  · rintro z e X ⟨x0, x1, x5, x6, j, hj, x7, fc, ol, od, hin⟩
    simp [x0, x1, x5, x6, x7, fc.len]
    refine WB.dec ?_ ?_
    · intro hlt
      have hjZ : j < Z.length := by omega
      obtain ⟨l, hl⟩ : ∃ l, nth Z (j : Int) = l := ⟨_, rfl⟩
      obtain ⟨hll2, hlr⟩ := hZm l (by rw [← hl]; exact nth_mem (by omega) (by omega))
      simp [x0, x1, x5, x6, x7]
      refine W_loop (fun (y : Nat) e X => e 0 = .ptr (some (kb, 0)) ∧ e 1 = lv ∧ e 5 = ov ∧ e 6 = cv ∧ e 7 = .int .i64 j ∧ ∃ i : Nat, y + i = l.length ∧ e 8 = .int .i64 i ∧ FreeL tg2 (fun g => g < X1.next) X cv Z ∧ ∃ ol, Od H0 tg2 X b kb S Q fd ov ol lv lbs ∧ (∀ q : Nat, q < j → ∀ c ∈ nth Z (q : Int), c ∈ L → nth ol c = true) ∧ ∀ c ∈ l.take i, c ∈ L → nth ol c = true) id l.length ?_ ?_
      · exact ⟨by simp [x0], by simp [x1], by simp [x5], by simp [x6], by simp [x7], 0, by simp, by simp, fc, ol, od, hin, by simp⟩
      · rintro y e X ⟨x0, x1, x5, x6, x7, i, hi, x8, fc, ol, od, hin, htk⟩
        obtain ⟨u, a1, a2, a3⟩ := fc.get (i := j) hjZ
        rw [hl] at a3
        simp [x0, x1, x5, x6, x7, x8, a1, a2, a3.len]
        refine WB.dec ?_ ?_
        · intro hlt
          have ia := a3.ia (k := .i64) (i := (i : Int)) (by omega) (by omega)
          have ld := a3.ld (i := (i : Int)) (by omega) (by omega)
          obtain ⟨a, ha⟩ : ∃ a, nth l (i : Int) = a := ⟨_, rfl⟩
          rw [ha] at ld
          obtain ⟨c0, c1⟩ := hlr a (by rw [← ha]; exact nth_mem (by omega) (by omega))
          have tm := take_memT (L := l) (j := i) (by omega)
          rw [ha] at tm
          have oln := od.len
          rw [hn] at oln
          have olen := od.out.1.len
          rw [oln] at olen
          have hge : (0 : Int) ≤ a := c0
          have ia2 := od.lo.sl.ia (k := .i64) c0 (by rw [hll]; exact c1)
          have ld2 := od.lo.sl.ld c0 (by rw [hll]; exact c1)
          have ia3 := od.out.1.ia (k := .i64) c0 (by rw [oln]; exact c1)
          cases hb : nth lbs a with
          | true =>
            rw [hb] at ld2
            obtain ⟨Y, q1, q2, q3⟩ := od.put c0 (by rw [hn]; exact c1)
            have fc' := fc.keeps od.c.d.fr.wf q3 fun g hg => by subst hg; exact hfdX
            simp [x0, x1, x5, x6, x7, x8, a1, a2, ia, ld, encI, encB, hge, olen, c1, ia2, ld2, ia3, q1]
            refine ⟨y - 1, by omega, i + 1, by omega, by rw [wrap64 (by omega) (by omega)]; simp, fc', _, q2, fun q hq c hc hcL => set_mono c0 (by rw [oln]; exact c1) (hLin c hcL).1 (hin q hq c hc hcL), fun c hc hcL => ?_⟩
            rcases (tm c).1 hc with e | e
            · subst e; exact set_self c0 (by rw [oln]; exact c1)
            · exact set_mono c0 (by rw [oln]; exact c1) (hLin c hcL).1 (htk c e hcL)
          | false =>
            rw [hb] at ld2
            simp [x0, x1, x5, x6, x7, x8, a1, a2, ia, ld, encI, encB, hge, olen, c1, ia2, ld2]
            refine ⟨y - 1, by omega, i + 1, by omega, by rw [wrap64 (by omega) (by omega)]; simp, fc, ol, od, hin, fun c hc hcL => ?_⟩
            rcases (tm c).1 hc with e | e
            · subst e
              have := (hL c c0 c1).2 hcL
              rw [hb] at this; cases this
            · exact htk c e hcL
        · intro hlt
          have hil : i = l.length := by omega
          subst hil
          rw [List.take_length] at htk
          simp [x0, x1, x5, x6, x7, x8]
          refine ⟨z - 1, by omega, j + 1, by omega, by rw [wrap64 (by omega) (by omega)]; simp, fc, ol, od, fun q hq c hc hcL => ?_⟩
          by_cases e : q = j
          · subst e; rw [hl] at hc; exact htk c hc hcL
          · exact hin q (by omega) c hc hcL
    · intro hlt
      have hjZ : j = Z.length := by omega
      subst hjZ
      obtain ⟨base, hbs⟩ : ∃ base : Int → Prop, base = fun i => ∃ x ∈ Z, i ∈ x := ⟨_, rfl⟩
      have near0 : ∀ i, Near S.cells L base 0 i → i ∈ L → nth ol i = true := by
        rintro i ⟨h1, h2⟩ _
        rw [hbs] at h2
        obtain ⟨x, hx, hix⟩ := h2
        obtain ⟨q, hq, rfl⟩ := mem_nth hx
        exact hin q hq i hix h1
      have final : ∀ i ∈ L, Near S.cells L base n i := fun i hi => by
        have := (all_near (base := base) hpred (by rw [hbs]; exact hbase) hi).mono (n - L.length)
        rwa [show L.length + (n - L.length) = n by omega] at this
      simp [x0, x1, x5]
      refine W_loop (fun (z : Nat) e X => e 0 = .ptr (some (kb, 0)) ∧ e 5 = ov ∧ ∃ r : Nat, z + r = n ∧ e 10 = .int .i64 r ∧ ∃ tg ol, Od H0 tg X b kb S Q fd ov ol lv lbs ∧ ∀ i, Near S.cells L base r i → i ∈ L → nth ol i = true) id n ?_ ?_
      · exact ⟨by simp [x0], by simp [x5], 0, by simp, by simp, tg2, ol, od, near0⟩
      · rintro z e X ⟨x0, x5, r, hr, x10, tg3, ol, od, hnear⟩
        have oln := od.len
        rw [hn] at oln
        have olen := od.out.1.len
        rw [oln] at olen
        simp [x0, x5, x10, olen]
        refine WB.dec ?_ ?_
        · intro hlt
          simp [x0, x5, x10]
          refine W_loop (fun (y : Nat) e X => e 0 = .ptr (some (kb, 0)) ∧ e 5 = ov ∧ e 10 = .int .i64 r ∧ ∃ i : Nat, y + i = n ∧ e 11 = .int .i64 i ∧ ∃ tg ol, Od H0 tg X b kb S Q fd ov ol lv lbs ∧ (∀ i, Near S.cells L base r i → i ∈ L → nth ol i = true) ∧ ∀ q : Nat, q < i → (q : Int) ∈ L → Near S.cells L base r (q : Int) → ∀ t ∈ strongs (nth S.cells (q : Int)).fs, nth ol t = true) id n ?_ ?_
          · exact ⟨by simp [x0], by simp [x5], by simp [x10], 0, by simp, by simp, tg3, ol, od, hnear, fun q hq => by omega⟩
          · rintro y e X ⟨x0, x5, x10, i, hi, x11, tg4, ol, od, hnear, hin⟩
            have oln := od.len
            rw [hn] at oln
            have olen := od.out.1.len
            rw [oln] at olen
            simp [x0, x5, x10, x11, olen]
            refine WB.dec ?_ ?_
            · intro hlt
              have hin_ : i < n := by omega
              have iQ : (i : Int) < Q.cells.length := by omega
              have iS : (i : Int) < S.cells.length := by omega
              have hfi := (hB.fs (i : Int)).1
              have hei := (hB.fs (i : Int)).2
              have hf8 := shp.fl _ (nth_mem (l := Q.cells) (i := (i : Int)) (by omega) iQ)
              have tin : ∀ t ∈ strongs (nth S.cells (i : Int)).fs, 0 ≤ t ∧ t < n := fun t ht => by
                have := g2 _ (nth_mem (by omega) iS) t ht
                omega
              simp [x0, x5, x10, x11]
              refine W_loop (fun (w : Nat) e X => e 0 = .ptr (some (kb, 0)) ∧ e 5 = ov ∧ e 10 = .int .i64 r ∧ e 11 = .int .i64 i ∧ ∃ f : Nat, w + f = (nth Q.cells (i : Int)).fs.length ∧ e 12 = .int .i64 f ∧ ∃ tg ol, Od H0 tg X b kb S Q fd ov ol lv lbs ∧ (∀ i, Near S.cells L base r i → i ∈ L → nth ol i = true) ∧ (∀ q : Nat, q < i → (q : Int) ∈ L → Near S.cells L base r (q : Int) → ∀ t ∈ strongs (nth S.cells (q : Int)).fs, nth ol t = true) ∧ ∀ t ∈ strongs ((nth S.cells (i : Int)).fs.take f), nth ol t = true) id (nth Q.cells (i : Int)).fs.length ?_ ?_
              · exact ⟨by simp [x0], by simp [x5], by simp [x10], by simp [x11], 0, by simp, by simp, tg4, ol, od, hnear, hin, by simp [strongs]⟩
              · rintro w e X ⟨x0, x5, x10, x11, f, hf, x12, tg5, ol, od, hnear, hin, hst⟩
                have oln := od.len
                rw [hn] at oln
                have olen := od.out.1.len
                rw [oln] at olen
                obtain ⟨fk, fv, rv, tv, f1, f2, f3, kj⟩ := od.c.kr
                have iaf := kj.o1.1.ia (k := .i64) (i := (i : Int)) (by omega) (by rw [lfl]; omega)
                have ldf := kj.o1.1.ld (i := (i : Int)) (by omega) (by rw [lfl]; omega)
                have hnf : nth (lfQ Q) (i : Int) = (nth Q.cells (i : Int)).fs.length := by unfold lfQ; rw [nth_mapB _ (by omega) iQ]
                rw [hnf] at ldf
                have iao := od.out.1.ia (k := .i64) (i := (i : Int)) (by omega) (by rw [oln]; omega)
                have ldo := od.out.1.ld (i := (i : Int)) (by omega) (by rw [oln]; omega)
                -- what comes next
                have fin : ∀ (X : AHeap) tg ol, Od H0 tg X b kb S Q fd ov ol lv lbs → (∀ i, Near S.cells L base r i → i ∈ L → nth ol i = true) → (∀ q : Nat, q < i → (q : Int) ∈ L → Near S.cells L base r (q : Int) → ∀ t ∈ strongs (nth S.cells (q : Int)).fs, nth ol t = true) → ((i : Int) ∈ L → Near S.cells L base r (i : Int) → ∀ t ∈ strongs (nth S.cells (i : Int)).fs, nth ol t = true) → ∃ j, j < y ∧ ∃ i', j + i' = n ∧ IntKind.i64.wrap ((i : Int) + 1) = (i' : Int) ∧ ∃ tg ol, Od H0 tg X b kb S Q fd ov ol lv lbs ∧ (∀ i, Near S.cells L base r i → i ∈ L → nth ol i = true) ∧ ∀ q : Nat, q < i' → (q : Int) ∈ L → Near S.cells L base r (q : Int) → ∀ t ∈ strongs (nth S.cells (q : Int)).fs, nth ol t = true := by
                  intro X tg ol h1 h2 h3 h4
                  refine ⟨y - 1, by omega, i + 1, by omega, by rw [wrap64 (by omega) (by omega)]; simp, tg, ol, h1, h2, fun q hq => ?_⟩
                  by_cases e : q = i
                  · subst e; exact h4
                  · exact h3 q (by omega)
                cases hb : nth ol (i : Int) with
                | false =>
                  rw [hb] at ldo
                  simp [x0, x5, x10, x11, x12, iao, ldo, encB]
                  exact fin X tg5 ol od hnear hin fun hiL hnr => by have := hnear _ hnr hiL; rw [hb] at this; cases this
                | true =>
                  rw [hb] at ldo
                  simp [x0, x5, x10, x11, x12, iao, ldo, encB, kj.ld1, iaf, ldf, encI]
                  refine WB.dec ?_ ?_
                  · intro hlt
                    have hfl : f < (nth Q.cells (i : Int)).fs.length := by omega
                    simp [x0, x5, x10, x11, x12, kj.ld0]
                    refine WC.of (p344 D.d344 od.c.d.fr.wf od.c.d.ok od.c.d.hp hB) ?_
                    rintro r5 Y ⟨rfl, tg6, u6, h6⟩
                    replace od := od.up u6 h6
                    obtain ⟨G, hG⟩ : ∃ G, getR Q.hp i f = G := ⟨_, rfl⟩
                    rw [hG]
                    have fin2 : ∀ (X : AHeap) ol, Od H0 tg6 X b kb S Q fd ov ol lv lbs → (∀ i, Near S.cells L base r i → i ∈ L → nth ol i = true) → (∀ q : Nat, q < i → (q : Int) ∈ L → Near S.cells L base r (q : Int) → ∀ t ∈ strongs (nth S.cells (q : Int)).fs, nth ol t = true) → (∀ t ∈ strongs ((nth S.cells (i : Int)).fs.take f), nth ol t = true) → (G.2 = 0 ∧ G.1.is = true ∧ G.1.weak = false → 0 ≤ G.1.to → G.1.to < n → nth ol G.1.to = true) → ∃ j, j < w ∧ ∃ f', j + f' = (nth Q.cells (i : Int)).fs.length ∧ IntKind.i64.wrap ((f : Int) + 1) = (f' : Int) ∧ ∃ tg ol, Od H0 tg X b kb S Q fd ov ol lv lbs ∧ (∀ i, Near S.cells L base r i → i ∈ L → nth ol i = true) ∧ (∀ q : Nat, q < i → (q : Int) ∈ L → Near S.cells L base r (q : Int) → ∀ t ∈ strongs (nth S.cells (q : Int)).fs, nth ol t = true) ∧ ∀ t ∈ strongs ((nth S.cells (i : Int)).fs.take f'), nth ol t = true := by
                      intro X ol h1 h2 h3 h4 h5
                      refine ⟨w - 1, by omega, f + 1, by omega, by rw [wrap64 (by omega) (by omega)]; simp, tg6, ol, h1, h2, h3, fun t ht => ?_⟩
                      have hfS : f < (nth S.cells (i : Int)).fs.length := by rw [hfi]; exact hfl
                      have ht' := ht
                      rw [strongs_take hfS] at ht
                      split at ht
                      · rename_i hcond
                        rcases List.mem_append.1 ht with q | q
                        · exact h4 t q
                        · rw [List.mem_singleton] at q
                          have hmem : t ∈ strongs (nth S.cells (i : Int)).fs := by
                            unfold strongs at ht' ⊢
                            obtain ⟨x, hx, hxt⟩ := List.mem_map.1 ht'
                            obtain ⟨y1, y2⟩ := List.mem_filter.1 hx
                            exact List.mem_map.2 ⟨x, List.mem_filter.2 ⟨List.mem_of_mem_take y1, y2⟩, hxt⟩
                          obtain ⟨t0, t1⟩ := tin t hmem
                          subst q
                          have he : (nth Q.cells (i : Int)).e = false := by
                            cases h : (nth Q.cells (i : Int)).e with
                            | false => rfl
                            | true =>
                              have := hd i (by omega) iQ h (nth (nth S.cells (i : Int)).fs (f : Int)) (by rw [hfi]; exact nth_mem (by omega) (by omega))
                              simp [this] at hcond
                          have hz : hasFieldR Q.hp i f = 0 := hasFieldR_ok (by omega) (by simpa using iQ) (by simpa using he) (by omega) (by simp only [Rp.hp_cells]; omega)
                          have hg : G = (nth (nth S.cells (i : Int)).fs (f : Int), 0) := by
                            rw [← hG]
                            unfold getR
                            rw [if_neg (by simp [hz])]
                            simp only [Rp.hp_cells]
                            rw [hfi]
                          rw [hg] at h5
                          simp at hcond
                          exact h5 ⟨rfl, hcond.1, hcond.2⟩ t0 t1
                      · exact h4 t ht
                    have oln := od.len
                    rw [hn] at oln
                    have olen := od.out.1.len
                    rw [oln] at olen
                    by_cases cc : G.2 = 0 ∧ G.1.is = true ∧ G.1.weak = false
                    · by_cases c4 : 0 ≤ G.1.to
                      · by_cases c5 : G.1.to < n
                        · obtain ⟨Y2, q1, q2, q3⟩ := od.put c4 (by rw [hn]; exact c5)
                          have ia3 := od.out.1.ia (k := .i64) c4 (by rw [oln]; exact c5)
                          simp [x0, x5, x10, x11, x12, cc.1, cc.2.1, cc.2.2, c4, c5, olen, ia3, q1]
                          exact fin2 Y2 _ q2 (fun i hi hiL => set_mono c4 (by rw [oln]; exact c5) (hLin i hiL).1 (hnear i hi hiL)) (fun q hq hqL hnr t ht => set_mono c4 (by rw [oln]; exact c5) (g2 _ (nth_mem (by omega) (by have := (hLin _ hqL).2; omega)) t ht).1 (hin q hq hqL hnr t ht)) (fun t ht => set_mono c4 (by rw [oln]; exact c5) (by
                            unfold strongs at ht
                            obtain ⟨x, hx, hxt⟩ := List.mem_map.1 ht
                            obtain ⟨y1, y2⟩ := List.mem_filter.1 hx
                            exact (tin t (by unfold strongs; exact List.mem_map.2 ⟨x, List.mem_filter.2 ⟨List.mem_of_mem_take y1, y2⟩, hxt⟩)).1) (hst t ht)) (fun _ _ _ => set_self c4 (by rw [oln]; exact c5))
                        · simp [x0, x5, x10, x11, x12, cc.1, cc.2.1, cc.2.2, c4, c5, olen]
                          exact fin2 Y ol od hnear hin hst fun _ _ h => absurd h c5
                      · simp [x0, x5, x10, x11, x12, cc.1, cc.2.1, cc.2.2, c4, olen]
                        exact fin2 Y ol od hnear hin hst fun _ h _ => absurd h c4
                    · have hfin := fin2 Y ol od hnear hin hst fun h => absurd h cc
                      by_cases c1 : G.2 = 0
                      · cases c2 : G.1.is with
                        | false =>
                          simp [x0, x5, x10, x11, x12, c1, c2]
                          exact hfin
                        | true =>
                          have c3 : G.1.weak = true := by
                            cases h : G.1.weak with
                            | true => rfl
                            | false => exact absurd ⟨c1, c2, h⟩ cc
                          simp [x0, x5, x10, x11, x12, c1, c2, c3]
                          exact hfin
                      · simp [x0, x5, x10, x11, x12, c1]
                        exact hfin
                  · intro hlt
                    have hfl : f = (nth Q.cells (i : Int)).fs.length := by omega
                    subst hfl
                    rw [← hfi, List.take_length] at hst
                    simp [x0, x5, x10, x11]
                    exact fin X tg5 ol od hnear hin fun _ _ => hst
            · intro hlt
              have hiL : i = n := by omega
              simp [x0, x5, x10, x11]
              refine ⟨z - 1, by omega, r + 1, by omega, by rw [wrap64 (by omega) (by omega)]; simp, tg4, ol, od, fun i hi hiL => ?_⟩
              rcases hi with hi | ⟨j, hj, hjn, hij⟩
              · exact hnear i hi hiL
              · obtain ⟨j0, j1⟩ := hLin j hj
                have e : ((j.toNat : Nat) : Int) = j := by omega
                have := hin j.toNat (by omega)
                rw [e] at this
                exact this hj hjn i hij
        · intro hlt
          have hrL : r = n := by omega
          rw [hrL] at hnear
          simp [x5]
          have no := od.no
          exact ⟨tg3, od.c, od.lo.mono fun g hg => hg.elim, ol, ⟨some fd, od.out, fun g hg => by cases hg; exact ⟨id, no⟩⟩, od.len, fun i hi => hnear i (final i hi) hi⟩
end Go.Am
