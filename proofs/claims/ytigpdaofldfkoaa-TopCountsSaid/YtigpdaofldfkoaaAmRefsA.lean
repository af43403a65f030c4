/- The heap of the reference on the small machine: what AmHeapA, AmHeapB and AmHeapD say of the program's heap. Printed by mkrefa.py. -/
import Derived.Test.YtigpdaofldfkoaaAmHeapH
set_option linter.unusedVariables false
set_option linter.unusedSimpArgs false
namespace Go.Am
/-- The reference's heap: a cell's number is how often it is a root. -/
structure Rp where
  cells : List Cel
  notes : List Int
  deriving Inhabited, DecidableEq
def encG (x : Fld) : AV := .agg [.int .i64 x.to, .bool x.is, .bool x.weak]
structure RpI (k : Nat) (tg : Tags) (H : AHeap) (b : Nat) (S : Rp) (fb : Nat) (cv nv : AV) (fc fn : Option Nat) (xs : List (AV × Cel)) (ff : Nat → Option Nat) : Prop where
  box : Box H b fb [cv, nv]
  tb : tg fb = some (k, .str)
  cs : Own encC 5 H cv xs fc
  tc : ∀ g, fc = some g → tg g = some (k, .cells)
  ns : Own encI 1 H nv S.notes fn
  tn : ∀ g, fn = some g → tg g = some (k, .notes)
  xc : xs.map (·.2) = S.cells
  fs : ∀ i x, xs[i]? = some x → Own encG 3 H x.1 x.2.fs (ff i) ∧ ∀ g, ff i = some g → tg g = some (k, .fields i)
def RpR (k : Nat) (tg : Tags) (H : AHeap) (b : Nat) (S : Rp) : Prop := ∃ fb cv nv fc fn xs ff, RpI k tg H b S fb cv nv fc fn xs ff
section
variable {k : Nat} {tg tg' : Tags} {H H' : AHeap} {b : Nat} {S : Rp} {fb : Nat} {cv nv : AV} {fc fn : Option Nat} {xs : List (AV × Cel)} {ff : Nat → Option Nat}
theorem RpI.keeps (h : RpI k tg H b S fb cv nv fc fn xs ff) (hw : WF H) {D : Nat → Prop} (hk : Keeps D H H') (hD : ∀ g t, g < H.next → tg g = some (k, t) → ¬D g ∧ tg' g = some (k, t)) : RpI k tg' H' b S fb cv nv fc fn xs ff := by
  have l1 := hw.row_fam h.box.row
  refine ⟨h.box.keeps hw hk (hD _ _ l1 h.tb).1, (hD _ _ l1 h.tb).2, h.cs.keeps hw hk fun g hg => ?_, fun g hg => ?_, h.ns.keeps hw hk fun g hg => ?_, fun g hg => ?_, h.xc, fun i x hx => ?_⟩
  · subst hg; exact (hD _ _ (h.cs.2.lt hw) (h.tc _ rfl)).1
  · subst hg; exact (hD _ _ (h.cs.2.lt hw) (h.tc _ rfl)).2
  · subst hg; exact (hD _ _ (h.ns.2.lt hw) (h.tn _ rfl)).1
  · subst hg; exact (hD _ _ (h.ns.2.lt hw) (h.tn _ rfl)).2
  · obtain ⟨h1, h2⟩ := h.fs i x hx
    refine ⟨h1.keeps hw hk fun g hg => ?_, fun g hg => ?_⟩
    · have hl := h1.2; rw [hg] at hl
      exact (hD _ _ (hl.lt hw) (h2 g hg)).1
    · have hl := h1.2; rw [hg] at hl
      exact (hD _ _ (hl.lt hw) (h2 g hg)).2
/-- Another structure's writes. -/
theorem RpR.other (h : RpR k tg H b S) (hw : WF H) {j : Nat} (hj : k ≠ j) (hu : Up j tg tg' H H') : RpR k tg' H' b S := by
  obtain ⟨fb, cv, nv, fc, fn, xs, ff, h⟩ := h
  exact ⟨fb, cv, nv, fc, fn, xs, ff, h.keeps hw hu.keeps fun g t hg ht => ⟨(hu.other hj hg ht).2, (hu.other hj hg ht).1⟩⟩
/-- New rows of nobody. -/
theorem RpR.fr (h : RpR k tg H b S) (hw : WF H) (hf : Fr H H') : RpR k tg H' b S := by
  obtain ⟨fb, cv, nv, fc, fn, xs, ff, h⟩ := h
  exact ⟨fb, cv, nv, fc, fn, xs, ff, h.keeps hw hf.keeps fun g t hg ht => ⟨by omega, ht⟩⟩
theorem RpI.len (h : RpI k tg H b S fb cv nv fc fn xs ff) : xs.length = S.cells.length := by rw [← h.xc]; simp
/-! What is loaded of the structure. -/
theorem RpI.ldc (h : RpI k tg H b S fb cv nv fc fn xs ff) : rsem (.ld 1 false) [.ptr (some (b, 0))] H = some cv := by simp [rsem, AHeap.ld, h.box.row]
theorem RpI.ldn (h : RpI k tg H b S fb cv nv fc fn xs ff) : rsem (.ld 1 false) [.ptr (some (b, 1))] H = some nv := by simp [rsem, AHeap.ld, h.box.row]
/-- The structure's own cells written. -/
theorem RpI.setBox (h : RpI k tg H b S fb cv nv fc fn xs ff) (hw : WF H) (hk : TagOk tg H) {off : Nat} {v : AV} (ho : off < 2) (hv : v.cell = true) :
    ∃ H', H.st b off [v] = some H' ∧ H'.next = H.next ∧ Up k tg tg H H' ∧ Box H' b fb (([cv, nv] : List AV).set off v) ∧ Keeps (fun g => g = fb) H H' := by
  obtain ⟨H', r1, r2, r3, r4, r5⟩ := h.box.st hw (off := off) (vs := [v]) (by simp; omega) (by simpa using hv)
  rw [splice_one (by simpa using ho)] at r3
  exact ⟨H', r1, r5, Up.one hk h.tb r2 r5 r4, r3, r4⟩
theorem RpI.ne (h : RpI k tg H b S fb cv nv fc fn xs ff) {g g' : Nat} {t t' : Tag} (h1 : tg g = some (k, t)) (h2 : tg g' = some (k, t')) (hne : t ≠ t') : g ≠ g' := by
  intro e; subst e; rw [h1] at h2; simp at h2; exact hne h2
theorem RpI.at (h : RpI k tg H b S fb cv nv fc fn xs ff) {i : Int} (h0 : 0 ≤ i) (h1 : i < S.cells.length) : (nth xs i).2 = nth S.cells i ∧ xs[i.toNat]? = some (nth xs i) := by
  have hl := h.len
  have e := nth_eq (l := xs) h0 (by omega)
  refine ⟨?_, e⟩
  rw [← h.xc]
  have : (xs.map (·.2))[i.toNat]? = some (nth xs i).2 := by rw [List.getElem?_map, e]; rfl
  have e2 := nth_eq (l := xs.map (·.2)) h0 (by simp; omega)
  rw [this] at e2; simpa using e2
/-- A cell's own words are written. -/
theorem RpI.setCell (h : RpI k tg H b S fb cv nv fc fn xs ff) (hw : WF H) (hk : TagOk tg H) {i : Int} (h0 : 0 ≤ i) (h1 : i < S.cells.length) :
    ∃ bo oo, elt cv 5 i = .ptr (some (bo, oo)) ∧
      (∀ o n, o + n ≤ 5 → H.ld bo (oo + o) n = some (((encC (nth xs i)).cells.drop o).take n)) ∧
      ∀ c o v, 0 < o → o < 5 → v.cell = true → c.fs = (nth S.cells i).fs → (encC ((nth xs i).1, c)).cells = (encC (nth xs i)).cells.set o v →
        ∃ H', H.st bo (oo + o) [v] = some H' ∧ H'.next = H.next ∧ Up k tg tg H H' ∧ RpI k tg H' b { S with cells := S.cells.set i.toNat c } fb cv nv fc fn (xs.set i.toNat ((nth xs i).1, c)) ff := by
  have hl := h.len
  obtain ⟨a1, a2⟩ := h.at h0 h1
  obtain ⟨bo, oo, e1, e2, e3⟩ := h.cs.at hw h0 (by omega)
  refine ⟨bo, oo, e1, e2, ?_⟩
  intro c o v ho ho5 hv hfs hc
  obtain ⟨H', r1, r2, r3, r4, r5⟩ := e3 ((nth xs i).1, c) o [v] (by simpa using hv) (by simp; omega) (by rw [hc, splice_one]; simp [encC, AV.cells]; omega)
  refine ⟨H', r1, r5, Up.oneO hk h.tc r2 r5 r4, h.box.keeps hw r4 fun e => h.ne (h.tc _ e) h.tb (by simp) rfl, h.tb, r3, h.tc, h.ns.keeps hw r4 fun g hg e => h.ne (h.tc _ e) (h.tn g hg) (by simp) rfl, h.tn, ?_, ?_⟩
  · rw [List.map_set, h.xc]
  · intro j x hx
    rw [List.getElem?_set] at hx
    have keep : ∀ y, xs[j]? = some y → Own encG 3 H' y.1 y.2.fs (ff j) ∧ ∀ g, ff j = some g → tg g = some (k, .fields j) := fun y hy => by
      obtain ⟨p1, p2⟩ := h.fs j y hy
      exact ⟨p1.keeps hw r4 fun g hg e => h.ne (h.tc _ e) (p2 g hg) (by simp) rfl, p2⟩
    split at hx
    · rename_i e
      split at hx
      · simp at hx
        subst hx
        subst e
        have := keep _ a2
        rw [a1] at this
        simpa [hfs] using this
      · cases hx
    · exact keep x hx
/-- A field is written. -/
theorem RpI.setField (h : RpI k tg H b S fb cv nv fc fn xs ff) (hw : WF H) (hk : TagOk tg H) {i : Int} (h0 : 0 ≤ i) (h1 : i < S.cells.length) {f : Int} (f0 : 0 ≤ f) (f1 : f < (nth S.cells i).fs.length) :
    ∃ bo oo, elt (nth xs i).1 3 f = .ptr (some (bo, oo)) ∧ H.ld bo oo 3 = some (encG (nth (nth S.cells i).fs f)).cells ∧
      ∀ y, ∃ H', H.st bo oo (encG y).cells = some H' ∧ H'.next = H.next ∧ Up k tg tg H H' ∧
        RpI k tg H' b { S with cells := S.cells.set i.toNat { nth S.cells i with fs := (nth S.cells i).fs.set f.toNat y } } fb cv nv fc fn (xs.set i.toNat ((nth xs i).1, { nth S.cells i with fs := (nth S.cells i).fs.set f.toNat y })) ff := by
  obtain ⟨a1, a2⟩ := h.at h0 h1
  obtain ⟨p1, p2⟩ := h.fs _ _ a2
  rw [a1] at p1
  obtain ⟨bo, oo, e1, e2, e3⟩ := p1.at hw f0 f1
  refine ⟨bo, oo, e1, by have := e2 0 3 (by omega); simpa [encG, AV.cells] using this, ?_⟩
  intro y
  obtain ⟨H', r1, r2, r3, r4, r5⟩ := e3 y 0 (encG y).cells (by simp [encG, AV.cells, AV.cell]) (by simp [encG, AV.cells]) (by simp [encG, AV.cells, splice])
  have kc := h.cs.keeps hw r4 fun g hg e => h.ne (h.tc g hg) (p2 _ e) (by simp) rfl
  refine ⟨H', by simpa using r1, r5, Up.oneO hk p2 r2 r5 r4, h.box.keeps hw r4 fun e => h.ne (p2 _ e) h.tb (by simp) rfl, h.tb, kc.congr ?_, h.tc, h.ns.keeps hw r4 fun g hg e => h.ne (p2 _ e) (h.tn g hg) (by simp) rfl, h.tn, ?_, ?_⟩
  · rw [List.map_set]
    refine (set_same' ?_).symm
    rw [List.getElem?_map, a2]
    simp [encC, a1]
  · rw [List.map_set, h.xc]
  · intro j x hx
    rw [List.getElem?_set] at hx
    split at hx
    · rename_i e
      split at hx
      · simp at hx
        subst hx
        subst e
        exact ⟨r3, p2⟩
      · cases hx
    · rename_i e
      obtain ⟨q1, q2⟩ := h.fs j x hx
      refine ⟨q1.keeps hw r4 fun g hg e' => h.ne (p2 _ e') (q2 g hg) (by simp; exact e) rfl, q2⟩
where
  set_same' {α : Type} {l : List α} {i : Nat} {x : α} (h : l[i]? = some x) : l.set i x = l := by
    apply List.ext_getElem?
    intro j
    rw [List.getElem?_set]
    by_cases e : i = j
    · subst e; rw [if_pos rfl, if_pos (List.getElem?_eq_some_iff.1 h).1, h]
    · rw [if_neg e]
/-- The notes' list is another one. -/
theorem RpI.setNotes (h : RpI k tg H b S fb cv nv fc fn xs ff) (hw : WF H) (hk : TagOk tg H) {v : AV} {l : List Int} {f : Option Nat} (hv : Own encI 1 H v l f) (hf : ∀ g, f = some g → tg g = some (k, .notes)) :
    ∃ H', H.st b 1 [v] = some H' ∧ H'.next = H.next ∧ Up k tg tg H H' ∧ RpI k tg H' b { S with notes := l } fb cv v fc f xs ff := by
  obtain ⟨H', r1, r2, r3, r4, r5⟩ := h.setBox hw hk (off := 1) (v := v) (by omega) hv.1.form.1
  refine ⟨H', r1, r2, r3, by simpa using r4, h.tb, h.cs.keeps hw r5 fun g hg => h.ne (h.tc g hg) h.tb (by simp), h.tc, hv.keeps hw r5 fun g hg => h.ne (hf g hg) h.tb (by simp), hf, h.xc, fun i x hx => ?_⟩
  obtain ⟨h1, h2⟩ := h.fs i x hx
  exact ⟨h1.keeps hw r5 fun g hg => h.ne (h2 g hg) h.tb (by simp), h2⟩
/-- A note more. -/
theorem RpI.pushNote (h : RpI k tg H b S fb cv nv fc fn xs ff) (hw : WF H) (hk : TagOk tg H) (x : Int) (hl : S.notes.length < 2 ^ 40) :
    ∃ v' H1 H2 tg' f', wsem0 (.app 1 8) [nv, .slc (some (H.next, 0)) 1 1 (some 1)] (H.new [.int .i64 x]) = some (v', H1) ∧ v'.cell = true ∧ H1.st b 1 [v'] = some H2 ∧ Up k tg tg' H H2 ∧ RpI k tg' H2 b { S with notes := S.notes ++ [x] } fb cv v' fc f' xs ff := by
  obtain ⟨v', H1, f', q1, q2, q3, q4, q5⟩ := push1 (bytes := 8) hw h.ns x (by omega) (by omega)
  have hn : H.next ≤ H1.next := q4.next
  -- the tags
  have ok1 : TagOk tg H1 := fun g hg => hk g (by omega)
  obtain ⟨tg', ht, htn, hold⟩ : ∃ tg' : Tags, Up k tg tg' H H1 ∧ (∀ g, f' = some g → tg' g = some (k, .notes)) ∧ ∀ g, g < H.next → tg' g = tg g := by
    have up1 : Up k tg tg H H1 := ⟨q2, ok1, q4.mono fun g e => ⟨_, h.tn g e⟩, fun _ => .inl rfl⟩
    cases f' with
    | none => exact ⟨tg, up1, (by intro g hg; cases hg), fun _ _ => rfl⟩
    | some g =>
      rcases q5 g rfl with e | e
      · exact ⟨tg, up1, (by intro g' hg; simp at hg; subst hg; exact h.tn _ e), fun _ _ => rfl⟩
      · have hlt := q3.2.lt q2
        exact ⟨upd tg g (some (k, .notes)), up1.put e hlt, (by intro g' hg; simp at hg; subst hg; exact upd_same _ _ _), fun g' hg' => upd_ne _ _ _ (by omega)⟩
  have h1 : RpI k tg' H1 b { S with notes := S.notes ++ [x] } fb cv nv fc fn xs ff → True := fun _ => trivial
  have l1 := hw.row_fam h.box.row
  have hb1 : Box H1 b fb [cv, nv] := h.box.keeps hw q4 fun e => h.ne (h.tn _ e) h.tb (by simp) rfl
  have tb' : tg' fb = some (k, .str) := by rw [hold _ l1]; exact h.tb
  obtain ⟨H2, r1, r2, r3, r4, r5⟩ := hb1.st q2 (off := 1) (vs := [v']) (by simp) (by simpa using q3.1.form.1)
  rw [splice_one (by simp)] at r3
  have up2 : Up k tg' tg' H1 H2 := Up.one ht.ok tb' r2 r5 r4
  have ne' : ∀ {g t}, tg' g = some (k, t) → t ≠ .str → g ≠ fb := by
    intro g t hg hne e; subst e; rw [tb'] at hg; simp at hg; exact hne hg.symm
  refine ⟨v', H1, H2, tg', f', by simpa using q1, q3.1.form.1, r1, ht.trans hw up2, by simpa using r3, tb', ?_, ?_, q3.keeps q2 r4 fun g hg => ne' (htn g hg) (by simp), htn, h.xc, ?_⟩
  · exact (h.cs.keeps hw q4 fun g hg e => h.ne (h.tn _ e) (h.tc g hg) (by simp) rfl).keeps q2 r4 fun g hg => h.ne (h.tc g hg) h.tb (by simp)
  · intro g hg; rw [hold g (by have := h.cs.2; rw [hg] at this; exact this.lt hw)]; exact h.tc g hg
  · intro i y hy
    obtain ⟨p1, p2⟩ := h.fs i y hy
    refine ⟨(p1.keeps hw q4 fun g hg e => h.ne (h.tn _ e) (p2 g hg) (by simp) rfl).keeps q2 r4 fun g hg => h.ne (p2 g hg) h.tb (by simp), fun g hg => ?_⟩
    rw [hold g (by have := p1.2; rw [hg] at this; exact this.lt hw)]; exact p2 g hg
/-- The first note is gone. -/
theorem RpI.tailNotes (h : RpI k tg H b S fb cv nv fc fn xs ff) (hw : WF H) (hk : TagOk tg H) {x : Int} {l : List Int} (hl : S.notes = x :: l) :
    psem (.ia 1) [nv, .int .i64 0] = some (elt nv 1 0) ∧ rsem (.ld 1 false) [elt nv 1 0] H = some (.int .i64 x) ∧
    ∃ v' H', psem (.sl 1 true false false) [nv, .int .i64 1] = some v' ∧ v'.cell = true ∧ H.st b 1 [v'] = some H' ∧ H'.next = H.next ∧ Up k tg tg H H' ∧ RpI k tg H' b { S with notes := l } fb cv v' fc fn xs ff := by
  have hlen : S.notes.length = l.length + 1 := by rw [hl]; rfl
  refine ⟨h.ns.1.ia (by omega) (by omega), ?_, ?_⟩
  · have := h.ns.1.ld (i := 0) (by omega) (by omega)
    rw [this, hl]; rfl
  · obtain ⟨v', _, q2, _, q3, q4, _⟩ := h.ns.1.cut 1 S.notes.length (by omega) (by omega)
    have hv : Own encI 1 H v' l fn := by
      refine ⟨?_, q4 _ h.ns.2⟩
      rw [hl] at q3
      simpa using q3
    obtain ⟨H', r1, r2, r3, r4⟩ := h.setNotes hw hk hv h.tn
    exact ⟨v', H', q2 .i64 rfl, q3.form.1, r1, r2, r3, r4⟩
theorem RpI.lenC (h : RpI k tg H b S fb cv nv fc fn xs ff) : psem .len [cv] = some (.int .i64 S.cells.length) := by rw [h.cs.1.len, h.len]
theorem RpI.ia (h : RpI k tg H b S fb cv nv fc fn xs ff) {kk : IntKind} {i : Int} (h0 : 0 ≤ i) (h1 : i < S.cells.length) : psem (.ia 5) [cv, .int kk i] = some (elt cv 5 i) := h.cs.1.ia h0 (by rw [h.len]; exact h1)
theorem RpI.lenN (h : RpI k tg H b S fb cv nv fc fn xs ff) : psem .len [nv] = some (.int .i64 S.notes.length) := h.ns.1.len
/-- A cell's words. -/
theorem RpI.cell (h : RpI k tg H b S fb cv nv fc fn xs ff) (hw : WF H) (hk : TagOk tg H) {i : Int} (h0 : 0 ≤ i) (h1 : i < S.cells.length) :
    ∃ bo oo, elt cv 5 i = .ptr (some (bo, oo)) ∧ rsem (.ld 1 false) [.ptr (some (bo, oo))] H = some (nth xs i).1 ∧ rsem (.ld 1 false) [.ptr (some (bo, oo + 1))] H = some (.bool (nth S.cells i).w) ∧
      rsem (.ld 1 false) [.ptr (some (bo, oo + 2))] H = some (.bool (nth S.cells i).t) ∧ rsem (.ld 1 false) [.ptr (some (bo, oo + 3))] H = some (.bool (nth S.cells i).e) ∧ rsem (.ld 1 false) [.ptr (some (bo, oo + 4))] H = some (.int .i64 (nth S.cells i).n) ∧
      rsem (.ld 5 true) [.ptr (some (bo, oo))] H = some (encC ((nth xs i).1, nth S.cells i)) ∧
      (∀ x, ∃ H', wsem0 (.st 1) [.ptr (some (bo, oo + 2)), .bool x] H = some (.undef, H') ∧ H'.next = H.next ∧ Up k tg tg H H' ∧ RpI k tg H' b { S with cells := S.cells.set i.toNat { nth S.cells i with t := x } } fb cv nv fc fn (xs.set i.toNat ((nth xs i).1, { nth S.cells i with t := x })) ff) ∧
      (∀ x, ∃ H', wsem0 (.st 1) [.ptr (some (bo, oo + 3)), .bool x] H = some (.undef, H') ∧ H'.next = H.next ∧ Up k tg tg H H' ∧ RpI k tg H' b { S with cells := S.cells.set i.toNat { nth S.cells i with e := x } } fb cv nv fc fn (xs.set i.toNat ((nth xs i).1, { nth S.cells i with e := x })) ff) ∧
      (∀ x, ∃ H', wsem0 (.st 1) [.ptr (some (bo, oo + 4)), .int .i64 x] H = some (.undef, H') ∧ H'.next = H.next ∧ Up k tg tg H H' ∧ RpI k tg H' b { S with cells := S.cells.set i.toNat { nth S.cells i with n := x } } fb cv nv fc fn (xs.set i.toNat ((nth xs i).1, { nth S.cells i with n := x })) ff) := by
  obtain ⟨a1, a2⟩ := h.at h0 h1
  obtain ⟨bo, oo, e1, e2, e3⟩ := h.setCell hw hk h0 h1
  have l0 := e2 0 1 (by omega)
  have l1 := e2 1 1 (by omega)
  have l2 := e2 2 1 (by omega)
  have l3 := e2 3 1 (by omega)
  have l4 := e2 4 1 (by omega)
  have l5 := e2 0 5 (by omega)
  simp only [encC, AV.cells, Nat.add_zero] at l0 l1 l2 l3 l4 l5
  refine ⟨bo, oo, e1, by simp [rsem, l0], by simp [rsem, l1, a1], by simp [rsem, l2, a1], by simp [rsem, l3, a1], by simp [rsem, l4, a1], by simp [rsem, l5, a1, encC], fun x => ?_, fun x => ?_, fun x => ?_⟩
  · obtain ⟨H', r1, r2⟩ := e3 { nth S.cells i with t := x } 2 (.bool x) (by omega) (by omega) rfl rfl (by simp [encC, AV.cells, a1])
    exact ⟨H', by simp [wsem0_st, AV.cells, r1], r2⟩
  · obtain ⟨H', r1, r2⟩ := e3 { nth S.cells i with e := x } 3 (.bool x) (by omega) (by omega) rfl rfl (by simp [encC, AV.cells, a1])
    exact ⟨H', by simp [wsem0_st, AV.cells, r1], r2⟩
  · obtain ⟨H', r1, r2⟩ := e3 { nth S.cells i with n := x } 4 (.int .i64 x) (by omega) (by omega) rfl rfl (by simp [encC, AV.cells, a1])
    exact ⟨H', by simp [wsem0_st, AV.cells, r1], r2⟩
theorem RpI.fld (h : RpI k tg H b S fb cv nv fc fn xs ff) {i : Int} (h0 : 0 ≤ i) (h1 : i < S.cells.length) : Sl encG 3 H (nth xs i).1 (nth S.cells i).fs := by
  obtain ⟨a1, a2⟩ := h.at h0 h1
  have := (h.fs _ _ a2).1.1
  rwa [a1] at this
end
end Go.Am

/- Contracts of the reference's heap: counts, and what a number of a cell is. -/
set_option linter.unusedVariables false
set_option linter.unusedSimpArgs false
namespace Go.Am
variable {T : Tab}
/-! ### Strong references -/
def strongTo (i : Int) (f : Fld) : Bool := f.is && !f.weak && decide (f.to = i)
def cnt (fs : List Fld) (i : Int) : Nat := fs.countP (strongTo i)
def refs (cs : List Cel) (i : Int) : Nat := (cs.map fun c => cnt c.fs i).sum
/-- Not too many cells, not too many fields. -/
structure Shp (cs : List Cel) : Prop where
  len : cs.length ≤ 100
  fl : ∀ c ∈ cs, c.fs.length ≤ 8
theorem cnt_le (fs : List Fld) (i : Int) : cnt fs i ≤ fs.length := List.countP_le_length
theorem refs_le {i : Int} : ∀ {cs : List Cel}, (∀ c ∈ cs, c.fs.length ≤ 8) → refs cs i ≤ 8 * cs.length
  | [], _ => by simp [refs]
  | c :: cs, h => by
    have h1 := refs_le (i := i) (cs := cs) fun d hd => h d (by simp [hd])
    have h2 := cnt_le c.fs i
    have h3 := h c (by simp)
    simp only [refs, List.map_cons, List.sum_cons, List.length_cons] at h1 ⊢
    omega
theorem refs_take {cs : List Cel} {j : Nat} (h : j < cs.length) (i : Int) : refs (cs.take (j + 1)) i = refs (cs.take j) i + cnt (nth cs (j : Int)).fs i := by
  rw [take_nth h]; simp [refs]
theorem cnt_take {fs : List Fld} {j : Nat} (h : j < fs.length) (i : Int) : cnt (fs.take (j + 1)) i = cnt (fs.take j) i + (if strongTo i (nth fs (j : Int)) then 1 else 0) := by
  rw [take_nth h]; simp [cnt, List.countP_append, List.countP_cons]
theorem take_fl {cs : List Cel} (h : ∀ c ∈ cs, c.fs.length ≤ 8) (j : Nat) : ∀ c ∈ cs.take j, c.fs.length ≤ 8 := fun c hc => h c (List.mem_of_mem_take hc)
def countedR (S : Rp) (i : Int) : Int := if (nth S.cells i).e = true then 0 else (nth S.cells i).n + (refs S.cells i : Int)
section
variable {k : Nat} {tg tg' : Tags} {H H' : AHeap} {b : Nat} {S : Rp} {fb : Nat} {cv nv : AV} {fc fn : Option Nat} {xs : List (AV × Cel)} {ff : Nat → Option Nat}
theorem RpI.fr (h : RpI k tg H b S fb cv nv fc fn xs ff) (hw : WF H) (hf : Fr H H') : RpI k tg H' b S fb cv nv fc fn xs ff := h.keeps hw hf.keeps fun g t hg ht => ⟨by omega, ht⟩
/-- A field is copied into a variable. -/
theorem RpI.field (h : RpI k tg H b S fb cv nv fc fn xs ff) (hw : WF H) (hk : TagOk tg H) {i j : Nat} (h1 : i < S.cells.length) (j1 : j < (nth S.cells (i : Int)).fs.length) :
    ∃ bo oo b2 o2 K, elt cv 5 i = .ptr (some (bo, oo)) ∧ rsem (.ld 1 false) [.ptr (some (bo, oo))] H = some (nth xs (i : Int)).1 ∧ psem .len [(nth xs (i : Int)).1] = some (.int .i64 (nth S.cells (i : Int)).fs.length) ∧ (∀ kk, psem (.ia 3) [(nth xs (i : Int)).1, .int kk j] = some (elt (nth xs (i : Int)).1 3 j)) ∧ elt (nth xs (i : Int)).1 3 j = .ptr (some (b2, o2)) ∧
      rsem (.ld 3 true) [.ptr (some (b2, o2))] H = some (encG (nth (nth S.cells (i : Int)).fs (j : Int))) ∧
      wsem0 (.st 3) [.ptr (some (H.next, 0)), encG (nth (nth S.cells (i : Int)).fs (j : Int))] (H.new [.int .i64 0, .bool false, .bool false]) = some (.undef, K) ∧ Fr H K ∧
      rsem (.ld 1 false) [.ptr (some (H.next, 0))] K = some (.int .i64 (nth (nth S.cells (i : Int)).fs (j : Int)).to) ∧
      rsem (.ld 1 false) [.ptr (some (H.next, 1))] K = some (.bool (nth (nth S.cells (i : Int)).fs (j : Int)).is) ∧
      rsem (.ld 1 false) [.ptr (some (H.next, 2))] K = some (.bool (nth (nth S.cells (i : Int)).fs (j : Int)).weak) := by
  have h1' : (i : Int) < S.cells.length := by exact_mod_cast h1
  have j1' : (j : Int) < (nth S.cells (i : Int)).fs.length := by exact_mod_cast j1
  obtain ⟨bo, oo, e1, e2, _⟩ := h.cell hw hk (by omega) h1'
  obtain ⟨b2, o2, p1, p2, _⟩ := h.setField hw hk (by omega) h1' (by omega) j1'
  obtain ⟨x, hx⟩ : ∃ x, nth (nth S.cells (i : Int)).fs (j : Int) = x := ⟨_, rfl⟩
  rw [hx] at p2 ⊢
  obtain ⟨K, b1, b3, b4⟩ := box_copy hw (n := 3) (zs := [.int .i64 0, .bool false, .bool false]) (ds := [.int .i64 x.to, .bool x.is, .bool x.weak]) rfl rfl (by simp [AV.cell])
  exact ⟨bo, oo, b2, o2, K, e1, e2, (h.fld (by omega) h1').len, fun kk => (h.fld (by omega) h1').ia (by omega) j1', p1, by simp [rsem, p2, encG, AV.cells], b1, b3, by simp [rsem, AHeap.ld, b4.row], by simp [rsem, AHeap.ld, b4.row], by simp [rsem, AHeap.ld, b4.row]⟩
end
end Go.Am

/- Contracts of the reference's heap: what a field is, fields made empty, set, cleared; roots. -/
set_option linter.unusedVariables false
set_option linter.unusedSimpArgs false
namespace Go.Am
variable {T : Tab}
def Rp.hp (S : Rp) : Hp := ⟨S.cells, [], S.notes⟩
def Hp.rp (S : Hp) : Rp := ⟨S.cells, S.notes⟩
@[simp] theorem Rp.hp_cells {S : Rp} : S.hp.cells = S.cells := rfl
def qset (S : Rp) (i : Int) (c : Cel) : Rp := { S with cells := S.cells.set i.toNat c }
@[simp] theorem qset_len {S : Rp} {i : Int} {c : Cel} : (qset S i c).cells.length = S.cells.length := by simp [qset]
theorem qset_nth {S : Rp} {i j : Int} {c : Cel} (h0 : 0 ≤ i) (h1 : i < S.cells.length) (hj : 0 ≤ j) : nth (qset S i c).cells j = if i = j then c else nth S.cells j := nth_set h0 h1 hj
def noteQ (S : Rp) (i : Int) : Rp := if countedR S i = 0 then { S with notes := S.notes ++ [i] } else S
def emptyQ (S : Rp) (i f : Int) : Rp :=
  let x := nth (nth S.cells i).fs f
  let S1 := qset S i { nth S.cells i with fs := (nth S.cells i).fs.set f.toNat ⟨false, false, 0⟩ }
  if x.is = true ∧ x.weak = false then noteQ S1 x.to else S1
def clearQ (S : Rp) (i f : Int) : Rp × Int := if hasFieldR S.hp i f ≠ 0 then (S, hasFieldR S.hp i f) else (emptyQ S i f, 0)
def setQ (S : Rp) (i f to : Int) (weak : Bool) : Rp × Int :=
  if hasFieldR S.hp i f ≠ 0 then (S, hasFieldR S.hp i f) else
  if hasR S.hp to true ≠ 0 then (S, hasR S.hp to true) else
  (qset (emptyQ S i f) i { nth (emptyQ S i f).cells i with fs := (nth (emptyQ S i f).cells i).fs.set f.toNat ⟨true, weak, to⟩ }, 0)
def rootQ (S : Rp) (i : Int) : Rp × Int := if hasR S.hp i true ≠ 0 then (S, hasR S.hp i true) else (qset S i { nth S.cells i with n := (nth S.cells i).n + 1 }, 0)
def dropQ (S : Rp) (i : Int) : Rp × Int :=
  if hasR S.hp i true ≠ 0 then (S, hasR S.hp i true) else
  if (nth S.cells i).n = 0 then (S, 7) else
  (noteQ (qset S i { nth S.cells i with n := (nth S.cells i).n - 1 }) i, 0)
def countQ (S : Rp) (i : Int) : Int × Int := if hasR S.hp i false ≠ 0 then (0, hasR S.hp i false) else (countedR S i, 0)
/-- Bounds that keep the sums small. -/
structure QBnd (S : Rp) : Prop where
  shp : Shp S.cells
  n : ∀ c ∈ S.cells, -(2 ^ 50) ≤ c.n ∧ c.n ≤ 2 ^ 50
  notes : S.notes.length < 2 ^ 39
def QTo (S : Rp) (i f : Int) : Prop := (nth (nth S.cells i).fs f).is = true → (nth (nth S.cells i).fs f).weak = false → 0 ≤ (nth (nth S.cells i).fs f).to ∧ (nth (nth S.cells i).fs f).to < S.cells.length
theorem mem_set_of {cs : List Cel} {P : Cel → Prop} (h : ∀ c ∈ cs, P c) {i : Nat} {c : Cel} (hc : P c) : ∀ d ∈ cs.set i c, P d := by
  intro d hd
  rcases List.mem_or_eq_of_mem_set hd with hd | rfl
  · exact h d hd
  · exact hc
theorem QBnd.set {S : Rp} (h : QBnd S) {i : Int} {c : Cel} (h1 : c.fs.length ≤ 8) (h2 : -(2 ^ 50) ≤ c.n ∧ c.n ≤ 2 ^ 50) : QBnd (qset S i c) :=
  ⟨⟨by simpa using h.shp.len, mem_set_of h.shp.fl h1⟩, mem_set_of h.n h2, h.notes⟩
theorem Shp.set {cs : List Cel} (h : Shp cs) {i : Nat} {c : Cel} (h1 : c.fs.length ≤ 8) : Shp (cs.set i c) := ⟨by simpa using h.len, mem_set_of h.fl h1⟩
section
variable {k : Nat} {tg tg' : Tags} {H H' : AHeap} {b : Nat} {S : Rp} {fb : Nat} {cv nv : AV} {fc fn : Option Nat} {xs : List (AV × Cel)} {ff : Nat → Option Nat}
/-- What a call on the reference's heap leaves. -/
def ToQ (k : Nat) (tg : Tags) (H : AHeap) (b : Nat) (S' : Rp) (K : AHeap) : Prop := ∃ tg', Up k tg tg' H K ∧ RpR k tg' K b S'
theorem ToQ.from_ {tg1 : Tags} {H1 : AHeap} (hw : WF H) (hu : Up k tg tg1 H H1) {K : AHeap} (h : ToQ k tg1 H1 b S K) : ToQ k tg H b S K := by
  obtain ⟨tg', h1, h2⟩ := h
  exact ⟨tg', hu.trans hw h1, h2⟩
theorem emptyQ_cells {i f : Int} : (emptyQ S i f).cells = S.cells.set i.toNat { nth S.cells i with fs := (nth S.cells i).fs.set f.toNat ⟨false, false, 0⟩ } := by
  unfold emptyQ noteQ; simp only; split
  · split <;> rfl
  · rfl
end
end Go.Am

/- Contracts of the reference's heap: Make, Count, Get. -/
set_option linter.unusedVariables false
set_option linter.unusedSimpArgs false
namespace Go.Am
variable {T : Tab}
def makeQ (S : Rp) (n : Int) (w : Bool) : Rp × Int × Int := ((makeR S.hp n w).1.rp, (makeR S.hp n w).2)
section
variable {k : Nat} {tg tg' : Tags} {H0 H H' : AHeap} {b : Nat} {S : Rp} {fb : Nat} {cv nv : AV} {fc fn : Option Nat} {xs : List (AV × Cel)} {ff : Nat → Option Nat}
/-- A cell more. -/
theorem RpI.pushCell (h : RpI k tg H b S fb cv nv fc fn xs ff) (hw0 : WF H0) (u : Up k tg tg H0 H) {fv : AV} {l : List Fld} {f : Option Nat} (hv : Own encG 3 H fv l f) (hf : ∀ g, f = some g → H0.next ≤ g ∧ tg g = none) (w : Bool) (hl : S.cells.length < 2 ^ 30) :
    ∃ v' H1 H2 tg' xs' ff' fc', wsem0 (.app 5 40) [cv, .slc (some (H.next, 0)) 5 1 (some 1)] (H.new [fv, .bool w, .bool false, .bool false, .int .i64 0]) = some (v', H1) ∧ v'.cell = true ∧
      H1.st b 0 [v'] = some H2 ∧ Up k tg tg' H0 H2 ∧ RpI k tg' H2 b { S with cells := S.cells ++ [⟨l, w, false, false, 0⟩] } fb v' nv fc' fn xs' ff' := by
  have hw := u.wf
  have hk := u.ok
  obtain ⟨x, hx⟩ : ∃ x : AV × Cel, x = (fv, ⟨l, w, false, false, 0⟩) := ⟨_, rfl⟩
  have hfc : fv.cell = true := hv.1.form.1
  have hxc : (encC x).cells = [fv, .bool w, .bool false, .bool false, .int .i64 0] := by rw [hx]; rfl
  have hlx : xs.length = S.cells.length := h.len
  obtain ⟨v', H1, f', q1, q2, q3, q4, q5⟩ := app_push (bytes := 40) (ys := [x]) hw h.cs (by omega) (by simp [hxc]) (by simp only [List.mem_singleton, forall_eq, hxc, List.all_cons, hfc]; rfl) (by simp; omega) (by simp; omega)
  simp only [List.flatMap_cons, List.flatMap_nil, List.append_nil, hxc, List.length_singleton] at q1
  have hn1 : H.next ≤ H1.next := q4.next
  have h0n := u.keeps.next
  have flt : ∀ g, f = some g → g < H.next := fun g hg => by have := hv.2; rw [hg] at this; exact this.lt hw
  -- the tags
  obtain ⟨tgA, htA⟩ : ∃ tgA : Tags, tgA = fun g => if f = some g then some (k, Tag.fields S.cells.length) else tg g := ⟨_, rfl⟩
  have hAo : ∀ g j t, tg g = some (j, t) → tgA g = some (j, t) := by
    intro g j t ht
    rw [htA]
    simp only
    rw [if_neg]
    · exact ht
    · intro e; rw [(hf g e).2] at ht; cases ht
  have hAn : ∀ g, f = some g → tgA g = some (k, .fields S.cells.length) := by intro g hg; rw [htA]; simp [hg]
  obtain ⟨tg', htn, hold, htag, hok⟩ : ∃ tg' : Tags, (∀ g, f' = some g → tg' g = some (k, .cells)) ∧ (∀ g, g < H.next → tg' g = tgA g) ∧ (∀ g, tg' g = tg g ∨ ((tg.own k g ∨ H0.next ≤ g) ∧ ∀ j t, tg' g = some (j, t) → j = k)) ∧ TagOk tg' H1 := by
    have baseA : ∀ g, tgA g = tg g ∨ ((tg.own k g ∨ H0.next ≤ g) ∧ ∀ j t, tgA g = some (j, t) → j = k) := by
      intro g
      by_cases e : f = some g
      · exact .inr ⟨.inr (hf g e).1, fun j t ht => by rw [hAn g e] at ht; simp at ht; exact ht.1.symm⟩
      · exact .inl (by rw [htA]; simp [e])
    have okA : TagOk tgA H1 := fun g hg => by
      rw [htA]; simp only
      rw [if_neg (fun e => by have := flt g e; omega)]
      exact hk g (by omega)
    have keep : (∀ g, f' = some g → fc = some g) → ∃ tg' : Tags, (∀ g, f' = some g → tg' g = some (k, .cells)) ∧ (∀ g, g < H.next → tg' g = tgA g) ∧ (∀ g, tg' g = tg g ∨ ((tg.own k g ∨ H0.next ≤ g) ∧ ∀ j t, tg' g = some (j, t) → j = k)) ∧ TagOk tg' H1 :=
      fun hh => ⟨tgA, fun g hg => hAo _ _ _ (h.tc g (hh g hg)), fun _ _ => rfl, baseA, okA⟩
    cases f' with
    | none => exact keep (by intro g hg; cases hg)
    | some g =>
      rcases q5 g rfl with e | e
      · exact keep (by intro g' hg; simp at hg; subst hg; exact e)
      · have hlt := q3.2.lt q2
        refine ⟨upd tgA g (some (k, .cells)), (by intro g' hg; simp at hg; subst hg; exact upd_same _ _ _), fun g' hg' => upd_ne _ _ _ (by omega), fun g' => ?_, fun g' hg' => by rw [upd_ne _ _ _ (by omega)]; exact okA g' hg'⟩
        by_cases e' : g' = g
        · subst e'; exact .inr ⟨.inr (by omega), fun j t ht => by rw [upd_same] at ht; simp at ht; exact ht.1.symm⟩
        · rw [upd_ne _ _ _ e']; exact baseA g'
  have keepT : ∀ g t, g < H.next → tg g = some (k, t) → tg' g = some (k, t) := fun g t hg ht => by rw [hold g hg]; exact hAo _ _ _ ht
  have up1 : Up k tg tg' H0 H1 :=
    ⟨q2, hok, Keeps.drop hw0 ((u.keeps.mono fun g hg => .inl hg).trans (q4.mono fun g e => .inl ⟨_, h.tc g e⟩)), htag⟩
  have l1 := hw.row_fam h.box.row
  have tb' : tg' fb = some (k, .str) := keepT _ _ l1 h.tb
  have hb1 : Box H1 b fb [cv, nv] := h.box.keeps hw q4 fun e => h.ne (h.tc _ e) h.tb (by simp) rfl
  obtain ⟨H2, r1, r2, r3, r4, r5⟩ := hb1.st q2 (off := 0) (vs := [v']) (by simp) (by simpa using q3.1.form.1)
  rw [splice_one (by simp)] at r3
  have up2 : Up k tg' tg' H1 H2 := Up.one hok tb' r2 r5 r4
  have ne' : ∀ {g t}, tg' g = some (k, t) → t ≠ .str → g ≠ fb := by
    intro g t hg hne e; subst e; rw [tb'] at hg; simp at hg; exact hne hg.symm
  have olt : ∀ {α : Type} {enc : α → AV} {z : Nat} {v : AV} {m : List α} {ff : Option Nat} {g : Nat}, Own enc z H v m ff → ff = some g → g < H.next := by
    intro α enc z v m ff g ho hg
    have := ho.2; rw [hg] at this; exact this.lt hw
  refine ⟨v', H1, H2, tg', xs ++ [x], upd ff S.cells.length f, f', q1, q3.1.form.1, r1, up1.trans hw0 up2, by simpa using r3, tb', q3.keeps q2 r4 fun g hg => ne' (htn g hg) (by simp), htn, ?_, ?_, ?_, ?_⟩
  · exact (h.ns.keeps hw q4 fun g hg e => h.ne (h.tc _ e) (h.tn g hg) (by simp) rfl).keeps q2 r4 fun g hg => h.ne (h.tn g hg) h.tb (by simp)
  · intro g hg; exact keepT _ _ (olt h.ns hg) (h.tn g hg)
  · rw [List.map_append, h.xc, hx]; rfl
  · intro i y hy
    by_cases e : i = S.cells.length
    · subst e
      rw [List.getElem?_append_right (by omega), hlx, Nat.sub_self] at hy
      simp at hy
      subst hy
      rw [upd_same, hx]
      refine ⟨(hv.keeps hw q4 fun g hg e => ?_).keeps q2 r4 fun g hg => ?_, fun g hg => ?_⟩
      · have := h.tc g e; rw [(hf g hg).2] at this; cases this
      · have := h.tb; intro e; subst e; rw [(hf _ hg).2] at this; cases this
      · rw [hold _ (flt g hg)]; exact hAn g hg
    · have hi : i < xs.length := by
        have := (List.getElem?_eq_some_iff.1 hy).1
        rw [List.length_append, List.length_singleton] at this
        omega
      rw [List.getElem?_append_left hi] at hy
      rw [upd_ne _ _ _ e]
      obtain ⟨p1, p2⟩ := h.fs i y hy
      exact ⟨(p1.keeps hw q4 fun g hg e => h.ne (h.tc _ e) (p2 g hg) (by simp) rfl).keeps q2 r4 fun g hg => h.ne (p2 g hg) h.tb (by simp), fun g hg => keepT _ _ (olt p1 hg) (p2 g hg)⟩
end
end Go.Am

/- Contracts of the reference's heap: Count, State, Get, a cell that ends. -/
set_option linter.unusedVariables false
set_option linter.unusedSimpArgs false
namespace Go.Am
variable {T : Tab}
def weakQ (S : Rp) (a : Int) : Rp := { S with cells := S.cells.map (clrC a) }
def emptiesQ (S : Rp) (a : Int) : Nat → Rp
  | 0 => S
  | n + 1 => emptyQ (emptiesQ S a n) a n
def endQ (S : Rp) (a : Int) : Rp := emptiesQ (weakQ (qset S a { nth S.cells a with e := true }) a) a (nth S.cells a).fs.length
section
variable {k : Nat} {tg tg' : Tags} {H0 H H' : AHeap} {b : Nat} {S : Rp} {fb : Nat} {cv nv : AV} {fc fn : Option Nat} {xs : List (AV × Cel)} {ff : Nat → Option Nat}
/-- What holds while fields are cleared. -/
def MidQ (k : Nat) (tg : Tags) (H : AHeap) (b : Nat) (S : Rp) (fb : Nat) (cv nv : AV) (fc fn : Option Nat) (ff : Nat → Option Nat) (K : AHeap) (cs : List Cel) : Prop :=
  ∃ xs, Up k tg tg H K ∧ RpI k tg K b { S with cells := cs } fb cv nv fc fn xs ff
theorem MidQ.same {K : AHeap} {cs cs' : List Cel} (h : MidQ k tg H b S fb cv nv fc fn ff K cs) (e : cs = cs') : MidQ k tg H b S fb cv nv fc fn ff K cs' := by rw [← e]; exact h
end
end Go.Am
