/- The heap of the reference on the small machine: what AmHeapA, AmHeapB and AmHeapD say of the program's heap. Printed by mkrefa.py. -/
import Derived.Test.YtpdedphkjkhddaaAmHeapH
set_option linter.unusedVariables false
set_option linter.unusedSimpArgs false
namespace Go.Am
/-- The reference's heap: a cell's number is how often it is a root. -/
structure Rp where
  cells : List Cel
  notes : List Int
  deriving Inhabited, DecidableEq
def encG (x : Fld) : AV := .agg [.int .i64 x.to, .bool x.is, .bool x.weak]
structure RpI (k : Nat) (tg : Tags) (H : AHeap) (b : Nat) (S : Rp) (fb : Nat) (cv nv : AV) (fc fn : Option Nat) (xs : List (AV × Cel)) (ff : Nat → Option Nat) : Prop where
  box : Box H b fb [cv, nv]
  tb : tg fb = some (k, .str)
  cs : Own encC 5 H cv xs fc
  tc : ∀ g, fc = some g → tg g = some (k, .cells)
  ns : Own encI 1 H nv S.notes fn
  tn : ∀ g, fn = some g → tg g = some (k, .notes)
  xc : xs.map (·.2) = S.cells
  fs : ∀ i x, xs[i]? = some x → Own encG 3 H x.1 x.2.fs (ff i) ∧ ∀ g, ff i = some g → tg g = some (k, .fields i)
def RpR (k : Nat) (tg : Tags) (H : AHeap) (b : Nat) (S : Rp) : Prop := ∃ fb cv nv fc fn xs ff, RpI k tg H b S fb cv nv fc fn xs ff
section
variable {k : Nat} {tg tg' : Tags} {H H' : AHeap} {b : Nat} {S : Rp} {fb : Nat} {cv nv : AV} {fc fn : Option Nat} {xs : List (AV × Cel)} {ff : Nat → Option Nat}
theorem RpI.keeps (h : RpI k tg H b S fb cv nv fc fn xs ff) (hw : WF H) {D : Nat → Prop} (hk : Keeps D H H') (hD : ∀ g t, g < H.next → tg g = some (k, t) → ¬D g ∧ tg' g = some (k, t)) : RpI k tg' H' b S fb cv nv fc fn xs ff := by
  have l1 := hw.row_fam h.box.row
  refine ⟨h.box.keeps hw hk (hD _ _ l1 h.tb).1, (hD _ _ l1 h.tb).2, h.cs.keeps hw hk fun g hg => ?_, fun g hg => ?_, h.ns.keeps hw hk fun g hg => ?_, fun g hg => ?_, h.xc, fun i x hx => ?_⟩
  · subst hg; exact (hD _ _ (h.cs.2.lt hw) (h.tc _ rfl)).1
  · subst hg; exact (hD _ _ (h.cs.2.lt hw) (h.tc _ rfl)).2
  · subst hg; exact (hD _ _ (h.ns.2.lt hw) (h.tn _ rfl)).1
  · subst hg; exact (hD _ _ (h.ns.2.lt hw) (h.tn _ rfl)).2
  · obtain ⟨h1, h2⟩ := h.fs i x hx
    refine ⟨h1.keeps hw hk fun g hg => ?_, fun g hg => ?_⟩
    · have hl := h1.2; rw [hg] at hl
      exact (hD _ _ (hl.lt hw) (h2 g hg)).1
    · have hl := h1.2; rw [hg] at hl
      exact (hD _ _ (hl.lt hw) (h2 g hg)).2
/-- Another structure's writes. -/
theorem RpR.other (h : RpR k tg H b S) (hw : WF H) {j : Nat} (hj : k ≠ j) (hu : Up j tg tg' H H') : RpR k tg' H' b S := by
  obtain ⟨fb, cv, nv, fc, fn, xs, ff, h⟩ := h
  exact ⟨fb, cv, nv, fc, fn, xs, ff, h.keeps hw hu.keeps fun g t hg ht => ⟨(hu.other hj hg ht).2, (hu.other hj hg ht).1⟩⟩
/-- New rows of nobody. -/
theorem RpR.fr (h : RpR k tg H b S) (hw : WF H) (hf : Fr H H') : RpR k tg H' b S := by
  obtain ⟨fb, cv, nv, fc, fn, xs, ff, h⟩ := h
  exact ⟨fb, cv, nv, fc, fn, xs, ff, h.keeps hw hf.keeps fun g t hg ht => ⟨by omega, ht⟩⟩
theorem RpI.len (h : RpI k tg H b S fb cv nv fc fn xs ff) : xs.length = S.cells.length := by rw [← h.xc]; simp
/-! What is loaded of the structure. -/
theorem RpI.ldc (h : RpI k tg H b S fb cv nv fc fn xs ff) : rsem (.ld 1 false) [.ptr (some (b, 0))] H = some cv := by simp [rsem, AHeap.ld, h.box.row]
theorem RpI.ldn (h : RpI k tg H b S fb cv nv fc fn xs ff) : rsem (.ld 1 false) [.ptr (some (b, 1))] H = some nv := by simp [rsem, AHeap.ld, h.box.row]
/-- The structure's own cells written. -/
theorem RpI.setBox (h : RpI k tg H b S fb cv nv fc fn xs ff) (hw : WF H) (hk : TagOk tg H) {off : Nat} {v : AV} (ho : off < 2) (hv : v.cell = true) :
    ∃ H', H.st b off [v] = some H' ∧ H'.next = H.next ∧ Up k tg tg H H' ∧ Box H' b fb (([cv, nv] : List AV).set off v) ∧ Keeps (fun g => g = fb) H H' := by
  obtain ⟨H', r1, r2, r3, r4, r5⟩ := h.box.st hw (off := off) (vs := [v]) (by simp; omega) (by simpa using hv)
  rw [splice_one (by simpa using ho)] at r3
  exact ⟨H', r1, r5, Up.one hk h.tb r2 r5 r4, r3, r4⟩
theorem RpI.ne (h : RpI k tg H b S fb cv nv fc fn xs ff) {g g' : Nat} {t t' : Tag} (h1 : tg g = some (k, t)) (h2 : tg g' = some (k, t')) (hne : t ≠ t') : g ≠ g' := by
  intro e; subst e; rw [h1] at h2; simp at h2; exact hne h2
theorem RpI.at (h : RpI k tg H b S fb cv nv fc fn xs ff) {i : Int} (h0 : 0 ≤ i) (h1 : i < S.cells.length) : (nth xs i).2 = nth S.cells i ∧ xs[i.toNat]? = some (nth xs i) := by
  have hl := h.len
  have e := nth_eq (l := xs) h0 (by omega)
  refine ⟨?_, e⟩
  rw [← h.xc]
  have : (xs.map (·.2))[i.toNat]? = some (nth xs i).2 := by rw [List.getElem?_map, e]; rfl
  have e2 := nth_eq (l := xs.map (·.2)) h0 (by simp; omega)
  rw [this] at e2; simpa using e2
/-- A cell's own words are written. -/
theorem RpI.setCell (h : RpI k tg H b S fb cv nv fc fn xs ff) (hw : WF H) (hk : TagOk tg H) {i : Int} (h0 : 0 ≤ i) (h1 : i < S.cells.length) :
    ∃ bo oo, elt cv 5 i = .ptr (some (bo, oo)) ∧
      (∀ o n, o + n ≤ 5 → H.ld bo (oo + o) n = some (((encC (nth xs i)).cells.drop o).take n)) ∧
      ∀ c o v, 0 < o → o < 5 → v.cell = true → c.fs = (nth S.cells i).fs → (encC ((nth xs i).1, c)).cells = (encC (nth xs i)).cells.set o v →
        ∃ H', H.st bo (oo + o) [v] = some H' ∧ H'.next = H.next ∧ Up k tg tg H H' ∧ RpI k tg H' b { S with cells := S.cells.set i.toNat c } fb cv nv fc fn (xs.set i.toNat ((nth xs i).1, c)) ff := by
  have hl := h.len
  obtain ⟨a1, a2⟩ := h.at h0 h1
  obtain ⟨bo, oo, e1, e2, e3⟩ := h.cs.at hw h0 (by omega)
  refine ⟨bo, oo, e1, e2, ?_⟩
  intro c o v ho ho5 hv hfs hc
  obtain ⟨H', r1, r2, r3, r4, r5⟩ := e3 ((nth xs i).1, c) o [v] (by simpa using hv) (by simp; omega) (by rw [hc, splice_one]; simp [encC, AV.cells]; omega)
  refine ⟨H', r1, r5, Up.oneO hk h.tc r2 r5 r4, h.box.keeps hw r4 fun e => h.ne (h.tc _ e) h.tb (by simp) rfl, h.tb, r3, h.tc, h.ns.keeps hw r4 fun g hg e => h.ne (h.tc _ e) (h.tn g hg) (by simp) rfl, h.tn, ?_, ?_⟩
  · rw [List.map_set, h.xc]
  · intro j x hx
    rw [List.getElem?_set] at hx
    have keep : ∀ y, xs[j]? = some y → Own encG 3 H' y.1 y.2.fs (ff j) ∧ ∀ g, ff j = some g → tg g = some (k, .fields j) := fun y hy => by
      obtain ⟨p1, p2⟩ := h.fs j y hy
      exact ⟨p1.keeps hw r4 fun g hg e => h.ne (h.tc _ e) (p2 g hg) (by simp) rfl, p2⟩
    split at hx
    · rename_i e
      split at hx
      · simp at hx
        subst hx
        subst e
        have := keep _ a2
        rw [a1] at this
        simpa [hfs] using this
      · cases hx
    · exact keep x hx
/-- A field is written. -/
theorem RpI.setField (h : RpI k tg H b S fb cv nv fc fn xs ff) (hw : WF H) (hk : TagOk tg H) {i : Int} (h0 : 0 ≤ i) (h1 : i < S.cells.length) {f : Int} (f0 : 0 ≤ f) (f1 : f < (nth S.cells i).fs.length) :
    ∃ bo oo, elt (nth xs i).1 3 f = .ptr (some (bo, oo)) ∧ H.ld bo oo 3 = some (encG (nth (nth S.cells i).fs f)).cells ∧
      ∀ y, ∃ H', H.st bo oo (encG y).cells = some H' ∧ H'.next = H.next ∧ Up k tg tg H H' ∧
        RpI k tg H' b { S with cells := S.cells.set i.toNat { nth S.cells i with fs := (nth S.cells i).fs.set f.toNat y } } fb cv nv fc fn (xs.set i.toNat ((nth xs i).1, { nth S.cells i with fs := (nth S.cells i).fs.set f.toNat y })) ff := by
  obtain ⟨a1, a2⟩ := h.at h0 h1
  obtain ⟨p1, p2⟩ := h.fs _ _ a2
  rw [a1] at p1
  obtain ⟨bo, oo, e1, e2, e3⟩ := p1.at hw f0 f1
  refine ⟨bo, oo, e1, by have := e2 0 3 (by omega); simpa [encG, AV.cells] using this, ?_⟩
  intro y
  obtain ⟨H', r1, r2, r3, r4, r5⟩ := e3 y 0 (encG y).cells (by simp [encG, AV.cells, AV.cell]) (by simp [encG, AV.cells]) (by simp [encG, AV.cells, splice])
  have kc := h.cs.keeps hw r4 fun g hg e => h.ne (h.tc g hg) (p2 _ e) (by simp) rfl
  refine ⟨H', by simpa using r1, r5, Up.oneO hk p2 r2 r5 r4, h.box.keeps hw r4 fun e => h.ne (p2 _ e) h.tb (by simp) rfl, h.tb, kc.congr ?_, h.tc, h.ns.keeps hw r4 fun g hg e => h.ne (p2 _ e) (h.tn g hg) (by simp) rfl, h.tn, ?_, ?_⟩
  · rw [List.map_set]
    refine (set_same' ?_).symm
    rw [List.getElem?_map, a2]
    simp [encC, a1]
  · rw [List.map_set, h.xc]
  · intro j x hx
    rw [List.getElem?_set] at hx
    split at hx
    · rename_i e
      split at hx
      · simp at hx
        subst hx
        subst e
        exact ⟨r3, p2⟩
      · cases hx
    · rename_i e
      obtain ⟨q1, q2⟩ := h.fs j x hx
      refine ⟨q1.keeps hw r4 fun g hg e' => h.ne (p2 _ e') (q2 g hg) (by simp; exact e) rfl, q2⟩
where
  set_same' {α : Type} {l : List α} {i : Nat} {x : α} (h : l[i]? = some x) : l.set i x = l := by
    apply List.ext_getElem?
    intro j
    rw [List.getElem?_set]
    by_cases e : i = j
    · subst e; rw [if_pos rfl, if_pos (List.getElem?_eq_some_iff.1 h).1, h]
    · rw [if_neg e]
/-- The notes' list is another one. -/
theorem RpI.setNotes (h : RpI k tg H b S fb cv nv fc fn xs ff) (hw : WF H) (hk : TagOk tg H) {v : AV} {l : List Int} {f : Option Nat} (hv : Own encI 1 H v l f) (hf : ∀ g, f = some g → tg g = some (k, .notes)) :
    ∃ H', H.st b 1 [v] = some H' ∧ H'.next = H.next ∧ Up k tg tg H H' ∧ RpI k tg H' b { S with notes := l } fb cv v fc f xs ff := by
  obtain ⟨H', r1, r2, r3, r4, r5⟩ := h.setBox hw hk (off := 1) (v := v) (by omega) hv.1.form.1
  refine ⟨H', r1, r2, r3, by simpa using r4, h.tb, h.cs.keeps hw r5 fun g hg => h.ne (h.tc g hg) h.tb (by simp), h.tc, hv.keeps hw r5 fun g hg => h.ne (hf g hg) h.tb (by simp), hf, h.xc, fun i x hx => ?_⟩
  obtain ⟨h1, h2⟩ := h.fs i x hx
  exact ⟨h1.keeps hw r5 fun g hg => h.ne (h2 g hg) h.tb (by simp), h2⟩
/-- A note more. -/
theorem RpI.pushNote (h : RpI k tg H b S fb cv nv fc fn xs ff) (hw : WF H) (hk : TagOk tg H) (x : Int) (hl : S.notes.length < 2 ^ 40) :
    ∃ v' H1 H2 tg' f', wsem0 (.app 1 8) [nv, .slc (some (H.next, 0)) 1 1 (some 1)] (H.new [.int .i64 x]) = some (v', H1) ∧ v'.cell = true ∧ H1.st b 1 [v'] = some H2 ∧ Up k tg tg' H H2 ∧ RpI k tg' H2 b { S with notes := S.notes ++ [x] } fb cv v' fc f' xs ff := by
  obtain ⟨v', H1, f', q1, q2, q3, q4, q5⟩ := push1 (bytes := 8) hw h.ns x (by omega) (by omega)
  have hn : H.next ≤ H1.next := q4.next
  -- the tags
  have ok1 : TagOk tg H1 := fun g hg => hk g (by omega)
  obtain ⟨tg', ht, htn, hold⟩ : ∃ tg' : Tags, Up k tg tg' H H1 ∧ (∀ g, f' = some g → tg' g = some (k, .notes)) ∧ ∀ g, g < H.next → tg' g = tg g := by
    have up1 : Up k tg tg H H1 := ⟨q2, ok1, q4.mono fun g e => ⟨_, h.tn g e⟩, fun _ => .inl rfl⟩
    cases f' with
    | none => exact ⟨tg, up1, (by intro g hg; cases hg), fun _ _ => rfl⟩
    | some g =>
      rcases q5 g rfl with e | e
      · exact ⟨tg, up1, (by intro g' hg; simp at hg; subst hg; exact h.tn _ e), fun _ _ => rfl⟩
      · have hlt := q3.2.lt q2
        exact ⟨upd tg g (some (k, .notes)), up1.put e hlt, (by intro g' hg; simp at hg; subst hg; exact upd_same _ _ _), fun g' hg' => upd_ne _ _ _ (by omega)⟩
  have h1 : RpI k tg' H1 b { S with notes := S.notes ++ [x] } fb cv nv fc fn xs ff → True := fun _ => trivial
  have l1 := hw.row_fam h.box.row
  have hb1 : Box H1 b fb [cv, nv] := h.box.keeps hw q4 fun e => h.ne (h.tn _ e) h.tb (by simp) rfl
  have tb' : tg' fb = some (k, .str) := by rw [hold _ l1]; exact h.tb
  obtain ⟨H2, r1, r2, r3, r4, r5⟩ := hb1.st q2 (off := 1) (vs := [v']) (by simp) (by simpa using q3.1.form.1)
  rw [splice_one (by simp)] at r3
  have up2 : Up k tg' tg' H1 H2 := Up.one ht.ok tb' r2 r5 r4
  have ne' : ∀ {g t}, tg' g = some (k, t) → t ≠ .str → g ≠ fb := by
    intro g t hg hne e; subst e; rw [tb'] at hg; simp at hg; exact hne hg.symm
  refine ⟨v', H1, H2, tg', f', by simpa using q1, q3.1.form.1, r1, ht.trans hw up2, by simpa using r3, tb', ?_, ?_, q3.keeps q2 r4 fun g hg => ne' (htn g hg) (by simp), htn, h.xc, ?_⟩
  · exact (h.cs.keeps hw q4 fun g hg e => h.ne (h.tn _ e) (h.tc g hg) (by simp) rfl).keeps q2 r4 fun g hg => h.ne (h.tc g hg) h.tb (by simp)
  · intro g hg; rw [hold g (by have := h.cs.2; rw [hg] at this; exact this.lt hw)]; exact h.tc g hg
  · intro i y hy
    obtain ⟨p1, p2⟩ := h.fs i y hy
    refine ⟨(p1.keeps hw q4 fun g hg e => h.ne (h.tn _ e) (p2 g hg) (by simp) rfl).keeps q2 r4 fun g hg => h.ne (p2 g hg) h.tb (by simp), fun g hg => ?_⟩
    rw [hold g (by have := p1.2; rw [hg] at this; exact this.lt hw)]; exact p2 g hg
/-- The first note is gone. -/
theorem RpI.tailNotes (h : RpI k tg H b S fb cv nv fc fn xs ff) (hw : WF H) (hk : TagOk tg H) {x : Int} {l : List Int} (hl : S.notes = x :: l) :
    psem (.ia 1) [nv, .int .i64 0] = some (elt nv 1 0) ∧ rsem (.ld 1 false) [elt nv 1 0] H = some (.int .i64 x) ∧
    ∃ v' H', psem (.sl 1 true false false) [nv, .int .i64 1] = some v' ∧ v'.cell = true ∧ H.st b 1 [v'] = some H' ∧ H'.next = H.next ∧ Up k tg tg H H' ∧ RpI k tg H' b { S with notes := l } fb cv v' fc fn xs ff := by
  have hlen : S.notes.length = l.length + 1 := by rw [hl]; rfl
  refine ⟨h.ns.1.ia (by omega) (by omega), ?_, ?_⟩
  · have := h.ns.1.ld (i := 0) (by omega) (by omega)
    rw [this, hl]; rfl
  · obtain ⟨v', _, q2, _, q3, q4, _⟩ := h.ns.1.cut 1 S.notes.length (by omega) (by omega)
    have hv : Own encI 1 H v' l fn := by
      refine ⟨?_, q4 _ h.ns.2⟩
      rw [hl] at q3
      simpa using q3
    obtain ⟨H', r1, r2, r3, r4⟩ := h.setNotes hw hk hv h.tn
    exact ⟨v', H', q2 .i64 rfl, q3.form.1, r1, r2, r3, r4⟩
theorem RpI.lenC (h : RpI k tg H b S fb cv nv fc fn xs ff) : psem .len [cv] = some (.int .i64 S.cells.length) := by rw [h.cs.1.len, h.len]
theorem RpI.ia (h : RpI k tg H b S fb cv nv fc fn xs ff) {kk : IntKind} {i : Int} (h0 : 0 ≤ i) (h1 : i < S.cells.length) : psem (.ia 5) [cv, .int kk i] = some (elt cv 5 i) := h.cs.1.ia h0 (by rw [h.len]; exact h1)
theorem RpI.lenN (h : RpI k tg H b S fb cv nv fc fn xs ff) : psem .len [nv] = some (.int .i64 S.notes.length) := h.ns.1.len
/-- A cell's words. -/
theorem RpI.cell (h : RpI k tg H b S fb cv nv fc fn xs ff) (hw : WF H) (hk : TagOk tg H) {i : Int} (h0 : 0 ≤ i) (h1 : i < S.cells.length) :
    ∃ bo oo, elt cv 5 i = .ptr (some (bo, oo)) ∧ rsem (.ld 1 false) [.ptr (some (bo, oo))] H = some (nth xs i).1 ∧ rsem (.ld 1 false) [.ptr (some (bo, oo + 1))] H = some (.bool (nth S.cells i).w) ∧
      rsem (.ld 1 false) [.ptr (some (bo, oo + 2))] H = some (.bool (nth S.cells i).t) ∧ rsem (.ld 1 false) [.ptr (some (bo, oo + 3))] H = some (.bool (nth S.cells i).e) ∧ rsem (.ld 1 false) [.ptr (some (bo, oo + 4))] H = some (.int .i64 (nth S.cells i).n) ∧
      rsem (.ld 5 true) [.ptr (some (bo, oo))] H = some (encC ((nth xs i).1, nth S.cells i)) ∧
      (∀ x, ∃ H', wsem0 (.st 1) [.ptr (some (bo, oo + 2)), .bool x] H = some (.undef, H') ∧ H'.next = H.next ∧ Up k tg tg H H' ∧ RpI k tg H' b { S with cells := S.cells.set i.toNat { nth S.cells i with t := x } } fb cv nv fc fn (xs.set i.toNat ((nth xs i).1, { nth S.cells i with t := x })) ff) ∧
      (∀ x, ∃ H', wsem0 (.st 1) [.ptr (some (bo, oo + 3)), .bool x] H = some (.undef, H') ∧ H'.next = H.next ∧ Up k tg tg H H' ∧ RpI k tg H' b { S with cells := S.cells.set i.toNat { nth S.cells i with e := x } } fb cv nv fc fn (xs.set i.toNat ((nth xs i).1, { nth S.cells i with e := x })) ff) ∧
      (∀ x, ∃ H', wsem0 (.st 1) [.ptr (some (bo, oo + 4)), .int .i64 x] H = some (.undef, H') ∧ H'.next = H.next ∧ Up k tg tg H H' ∧ RpI k tg H' b { S with cells := S.cells.set i.toNat { nth S.cells i with n := x } } fb cv nv fc fn (xs.set i.toNat ((nth xs i).1, { nth S.cells i with n := x })) ff) := by
  obtain ⟨a1, a2⟩ := h.at h0 h1
  obtain ⟨bo, oo, e1, e2, e3⟩ := h.setCell hw hk h0 h1
  have l0 := e2 0 1 (by omega)
  have l1 := e2 1 1 (by omega)
  have l2 := e2 2 1 (by omega)
  have l3 := e2 3 1 (by omega)
  have l4 := e2 4 1 (by omega)
  have l5 := e2 0 5 (by omega)
  simp only [encC, AV.cells, Nat.add_zero] at l0 l1 l2 l3 l4 l5
  refine ⟨bo, oo, e1, by simp [rsem, l0], by simp [rsem, l1, a1], by simp [rsem, l2, a1], by simp [rsem, l3, a1], by simp [rsem, l4, a1], by simp [rsem, l5, a1, encC], fun x => ?_, fun x => ?_, fun x => ?_⟩
  · obtain ⟨H', r1, r2⟩ := e3 { nth S.cells i with t := x } 2 (.bool x) (by omega) (by omega) rfl rfl (by simp [encC, AV.cells, a1])
    exact ⟨H', by simp [wsem0_st, AV.cells, r1], r2⟩
  · obtain ⟨H', r1, r2⟩ := e3 { nth S.cells i with e := x } 3 (.bool x) (by omega) (by omega) rfl rfl (by simp [encC, AV.cells, a1])
    exact ⟨H', by simp [wsem0_st, AV.cells, r1], r2⟩
  · obtain ⟨H', r1, r2⟩ := e3 { nth S.cells i with n := x } 4 (.int .i64 x) (by omega) (by omega) rfl rfl (by simp [encC, AV.cells, a1])
    exact ⟨H', by simp [wsem0_st, AV.cells, r1], r2⟩
theorem RpI.fld (h : RpI k tg H b S fb cv nv fc fn xs ff) {i : Int} (h0 : 0 ≤ i) (h1 : i < S.cells.length) : Sl encG 3 H (nth xs i).1 (nth S.cells i).fs := by
  obtain ⟨a1, a2⟩ := h.at h0 h1
  have := (h.fs _ _ a2).1.1
  rwa [a1] at this
end
end Go.Am

/- Contracts of the reference's heap: counts, and what a number of a cell is. -/
set_option linter.unusedVariables false
set_option linter.unusedSimpArgs false
namespace Go.Am
variable {T : Tab}
/-! ### Strong references -/
def strongTo (i : Int) (f : Fld) : Bool := f.is && !f.weak && decide (f.to = i)
def cnt (fs : List Fld) (i : Int) : Nat := fs.countP (strongTo i)
def refs (cs : List Cel) (i : Int) : Nat := (cs.map fun c => cnt c.fs i).sum
/-- Not too many cells, not too many fields. -/
structure Shp (cs : List Cel) : Prop where
  len : cs.length ≤ 100
  fl : ∀ c ∈ cs, c.fs.length ≤ 8
theorem cnt_le (fs : List Fld) (i : Int) : cnt fs i ≤ fs.length := List.countP_le_length
theorem refs_le {i : Int} : ∀ {cs : List Cel}, (∀ c ∈ cs, c.fs.length ≤ 8) → refs cs i ≤ 8 * cs.length
  | [], _ => by simp [refs]
  | c :: cs, h => by
    have h1 := refs_le (i := i) (cs := cs) fun d hd => h d (by simp [hd])
    have h2 := cnt_le c.fs i
    have h3 := h c (by simp)
    simp only [refs, List.map_cons, List.sum_cons, List.length_cons] at h1 ⊢
    omega
theorem refs_take {cs : List Cel} {j : Nat} (h : j < cs.length) (i : Int) : refs (cs.take (j + 1)) i = refs (cs.take j) i + cnt (nth cs (j : Int)).fs i := by
  rw [take_nth h]; simp [refs]
theorem cnt_take {fs : List Fld} {j : Nat} (h : j < fs.length) (i : Int) : cnt (fs.take (j + 1)) i = cnt (fs.take j) i + (if strongTo i (nth fs (j : Int)) then 1 else 0) := by
  rw [take_nth h]; simp [cnt, List.countP_append, List.countP_cons]
theorem take_fl {cs : List Cel} (h : ∀ c ∈ cs, c.fs.length ≤ 8) (j : Nat) : ∀ c ∈ cs.take j, c.fs.length ≤ 8 := fun c hc => h c (List.mem_of_mem_take hc)
def countedR (S : Rp) (i : Int) : Int := if (nth S.cells i).e = true then 0 else (nth S.cells i).n + (refs S.cells i : Int)
section
variable {k : Nat} {tg tg' : Tags} {H H' : AHeap} {b : Nat} {S : Rp} {fb : Nat} {cv nv : AV} {fc fn : Option Nat} {xs : List (AV × Cel)} {ff : Nat → Option Nat}
theorem RpI.fr (h : RpI k tg H b S fb cv nv fc fn xs ff) (hw : WF H) (hf : Fr H H') : RpI k tg H' b S fb cv nv fc fn xs ff := h.keeps hw hf.keeps fun g t hg ht => ⟨by omega, ht⟩
/-- A field is copied into a variable. -/
theorem RpI.field (h : RpI k tg H b S fb cv nv fc fn xs ff) (hw : WF H) (hk : TagOk tg H) {i j : Nat} (h1 : i < S.cells.length) (j1 : j < (nth S.cells (i : Int)).fs.length) :
    ∃ bo oo b2 o2 K, elt cv 5 i = .ptr (some (bo, oo)) ∧ rsem (.ld 1 false) [.ptr (some (bo, oo))] H = some (nth xs (i : Int)).1 ∧ psem .len [(nth xs (i : Int)).1] = some (.int .i64 (nth S.cells (i : Int)).fs.length) ∧ (∀ kk, psem (.ia 3) [(nth xs (i : Int)).1, .int kk j] = some (elt (nth xs (i : Int)).1 3 j)) ∧ elt (nth xs (i : Int)).1 3 j = .ptr (some (b2, o2)) ∧
      rsem (.ld 3 true) [.ptr (some (b2, o2))] H = some (encG (nth (nth S.cells (i : Int)).fs (j : Int))) ∧
      wsem0 (.st 3) [.ptr (some (H.next, 0)), encG (nth (nth S.cells (i : Int)).fs (j : Int))] (H.new [.int .i64 0, .bool false, .bool false]) = some (.undef, K) ∧ Fr H K ∧
      rsem (.ld 1 false) [.ptr (some (H.next, 0))] K = some (.int .i64 (nth (nth S.cells (i : Int)).fs (j : Int)).to) ∧
      rsem (.ld 1 false) [.ptr (some (H.next, 1))] K = some (.bool (nth (nth S.cells (i : Int)).fs (j : Int)).is) ∧
      rsem (.ld 1 false) [.ptr (some (H.next, 2))] K = some (.bool (nth (nth S.cells (i : Int)).fs (j : Int)).weak) := by
  have h1' : (i : Int) < S.cells.length := by exact_mod_cast h1
  have j1' : (j : Int) < (nth S.cells (i : Int)).fs.length := by exact_mod_cast j1
  obtain ⟨bo, oo, e1, e2, _⟩ := h.cell hw hk (by omega) h1'
  obtain ⟨b2, o2, p1, p2, _⟩ := h.setField hw hk (by omega) h1' (by omega) j1'
  obtain ⟨x, hx⟩ : ∃ x, nth (nth S.cells (i : Int)).fs (j : Int) = x := ⟨_, rfl⟩
  rw [hx] at p2 ⊢
  obtain ⟨K, b1, b3, b4⟩ := box_copy hw (n := 3) (zs := [.int .i64 0, .bool false, .bool false]) (ds := [.int .i64 x.to, .bool x.is, .bool x.weak]) rfl rfl (by simp [AV.cell])
  exact ⟨bo, oo, b2, o2, K, e1, e2, (h.fld (by omega) h1').len, fun kk => (h.fld (by omega) h1').ia (by omega) j1', p1, by simp [rsem, p2, encG, AV.cells], b1, b3, by simp [rsem, AHeap.ld, b4.row], by simp [rsem, AHeap.ld, b4.row], by simp [rsem, AHeap.ld, b4.row]⟩
theorem c378 (D : D378 T) (hw : WF H) (hk : TagOk tg H) (h : RpI k tg H b S fb cv nv fc fn xs ff) (hs : Shp S.cells) {i : Int} (h0 : 0 ≤ i) (h1 : i < S.cells.length) (hn : -(2 ^ 60) ≤ (nth S.cells i).n ∧ (nth S.cells i).n ≤ 2 ^ 60) :
    Calls T 378 [.ptr (some (b, 0)), .int .i64 i] H fun r K => r = .int .i64 (countedR S i) ∧ Fr H K := by
  refine Calls.fn D.pr D.fn ?_
  obtain ⟨bo, oo, e1, e2, e3, e4, e5, e6, _⟩ := h.cell hw hk h0 h1
  have ia := h.ia (kk := .i64) h0 h1
  cases he : (nth S.cells i).e with
  | true =>
    have hR : countedR S i = 0 := by unfold countedR; rw [if_pos he]
    simp [ir378, h.ldc, ia, e1, e5, he, hR]
    exact .refl hw
  | false =>
    have hR : countedR S i = (nth S.cells i).n + (refs S.cells i : Int) := by unfold countedR; rw [if_neg (by simp [he])]
    simp [ir378, h.ldc, ia, e1, e5, he, e6]
    refine W_loop (fun (z : Nat) e K => e 0 = .ptr (some (b, 0)) ∧ e 1 = .int .i64 i ∧ Fr H K ∧ ∃ j : Nat, z + j = S.cells.length ∧ e 6 = .int .i64 j ∧ e 5 = .int .i64 ((nth S.cells i).n + (refs (S.cells.take j) i : Int))) id S.cells.length ?_ ?_
    · exact ⟨by simp, by simp, .refl hw, 0, by simp, by simp, by simp [refs]⟩
    · rintro z e K ⟨x0, x1, fr, j, hj, x6, x5⟩
      have g := h.fr hw fr
      simp [x0, x6, g.ldc, g.lenC]
      refine WB.bool ?_ ?_
      · intro hlt
        simp at hlt
        have hle := refs_le (i := i) (take_fl hs.fl j)
        have hjl : (S.cells.take j).length = j := by rw [List.length_take]; omega
        have hlen := hs.len
        have hfl := hs.fl _ (nth_mem (i := (j : Int)) (by omega) (by exact_mod_cast hlt))
        simp
        refine W_loop (fun (y : Nat) e X => e 0 = .ptr (some (b, 0)) ∧ e 1 = .int .i64 i ∧ Fr H X ∧ e 6 = .int .i64 j ∧ ∃ q : Nat, y + q = (nth S.cells (j : Int)).fs.length ∧ e 7 = .int .i64 q ∧ e 5 = .int .i64 ((nth S.cells i).n + (refs (S.cells.take j) i : Int) + (cnt ((nth S.cells (j : Int)).fs.take q) i : Int))) id (nth S.cells (j : Int)).fs.length ?_ ?_
        · exact ⟨by simp [x0], by simp [x1], fr, by simp [x6], 0, by simp, by simp, by simp [cnt, x5]⟩
        · rintro y e X ⟨x0, x1, fr, x6, q, hq, x7, x5⟩
          have g := h.fr hw fr
          have hkX : TagOk tg X := fun a ha => hk a (Nat.le_trans fr.next ha)
          have iaj := g.ia (kk := .i64) (i := (j : Int)) (by omega) (by exact_mod_cast hlt)
          obtain ⟨bo2, oo2, f1, f2, _⟩ := g.cell fr.wf hkX (i := (j : Int)) (by omega) (by exact_mod_cast hlt)
          have fl := (g.fld (i := (j : Int)) (by omega) (by exact_mod_cast hlt)).len
          simp [x0, x6, x7, g.ldc, iaj, f1, f2, fl]
          refine WB.bool ?_ ?_
          · intro hlt2
            simp at hlt2
            obtain ⟨bo3, oo3, b2, o2, Y, p1, p2, p3, p4, p5, p6, p7, p8, p9, p10, p11⟩ := g.field fr.wf hkX hlt hlt2
            rw [f1] at p1
            simp only [AV.ptr.injEq, Option.some.injEq, Prod.mk.injEq] at p1
            obtain ⟨rfl, rfl⟩ := p1
            have hc := cnt_take hlt2 i
            have hcl := cnt_le ((nth S.cells (j : Int)).fs.take q) i
            have hql : ((nth S.cells (j : Int)).fs.take q).length ≤ q := by rw [List.length_take]; omega
            obtain ⟨x, hx⟩ : ∃ x, nth (nth S.cells (j : Int)).fs (q : Int) = x := ⟨_, rfl⟩
            rw [hx] at p6 p7 p9 p10 p11 hc
            simp [x0, x6, x7, g.ldc, iaj, f1, f2, p4, p5, p6, AV.cells, AV.cell, p7, p10]
            cases his : x.is with
            | false =>
              have hst : strongTo i x = false := by simp [strongTo, his]
              rw [hst] at hc
              simp (disch := omega) [x7, wrap64]
              refine ⟨y - 1, by omega, x0, x1, fr.trans p8, x6, q + 1, by omega, by simp, ?_⟩
              rw [hc]; simpa using x5
            | true =>
              simp [p11]
              cases hwk : x.weak with
              | true =>
                have hst : strongTo i x = false := by simp [strongTo, hwk]
                rw [hst] at hc
                simp (disch := omega) [x7, wrap64]
                refine ⟨y - 1, by omega, x0, x1, fr.trans p8, x6, q + 1, by omega, by simp, ?_⟩
                rw [hc]; simpa using x5
              | false =>
                simp [p9, x1]
                refine WB.bool ?_ ?_
                · intro hto
                  simp at hto
                  have hst : strongTo i x = true := by simp [strongTo, his, hwk, hto]
                  rw [hst] at hc
                  simp (disch := omega) [x5, x7, wrap64]
                  refine ⟨y - 1, by omega, x0, x1, fr.trans p8, x6, q + 1, by omega, by simp, ?_⟩
                  rw [hc]; simp; omega
                · intro hto
                  simp at hto
                  have hst : strongTo i x = false := by simp [strongTo, hto]
                  rw [hst] at hc
                  simp (disch := omega) [x7, wrap64]
                  refine ⟨y - 1, by omega, x0, x1, fr.trans p8, x6, q + 1, by omega, by simp, ?_⟩
                  rw [hc]; simpa using x5
          · intro hge
            simp at hge
            rw [List.take_of_length_le (l := (nth S.cells (j : Int)).fs) (by omega)] at x5
            have hrt := refs_take hlt i
            simp (disch := omega) [x6, wrap64]
            refine ⟨z - 1, by omega, x0, x1, fr, j + 1, by omega, by simp, ?_⟩
            rw [hrt, x5]
            simp [Int.add_assoc]
      · intro hge
        simp at hge
        rw [List.take_of_length_le (by omega)] at x5
        simp [x5, hR]
        exact fr
end
end Go.Am

/- Contracts of the reference's heap: what a field is, fields made empty, set, cleared; roots. -/
set_option linter.unusedVariables false
set_option linter.unusedSimpArgs false
namespace Go.Am
variable {T : Tab}
def Rp.hp (S : Rp) : Hp := ⟨S.cells, [], S.notes⟩
def Hp.rp (S : Hp) : Rp := ⟨S.cells, S.notes⟩
@[simp] theorem Rp.hp_cells {S : Rp} : S.hp.cells = S.cells := rfl
def qset (S : Rp) (i : Int) (c : Cel) : Rp := { S with cells := S.cells.set i.toNat c }
@[simp] theorem qset_len {S : Rp} {i : Int} {c : Cel} : (qset S i c).cells.length = S.cells.length := by simp [qset]
theorem qset_nth {S : Rp} {i j : Int} {c : Cel} (h0 : 0 ≤ i) (h1 : i < S.cells.length) (hj : 0 ≤ j) : nth (qset S i c).cells j = if i = j then c else nth S.cells j := nth_set h0 h1 hj
def noteQ (S : Rp) (i : Int) : Rp := if countedR S i = 0 then { S with notes := S.notes ++ [i] } else S
def emptyQ (S : Rp) (i f : Int) : Rp :=
  let x := nth (nth S.cells i).fs f
  let S1 := qset S i { nth S.cells i with fs := (nth S.cells i).fs.set f.toNat ⟨false, false, 0⟩ }
  if x.is = true ∧ x.weak = false then noteQ S1 x.to else S1
def clearQ (S : Rp) (i f : Int) : Rp × Int := if hasFieldR S.hp i f ≠ 0 then (S, hasFieldR S.hp i f) else (emptyQ S i f, 0)
def setQ (S : Rp) (i f to : Int) (weak : Bool) : Rp × Int :=
  if hasFieldR S.hp i f ≠ 0 then (S, hasFieldR S.hp i f) else
  if hasR S.hp to true ≠ 0 then (S, hasR S.hp to true) else
  (qset (emptyQ S i f) i { nth (emptyQ S i f).cells i with fs := (nth (emptyQ S i f).cells i).fs.set f.toNat ⟨true, weak, to⟩ }, 0)
def rootQ (S : Rp) (i : Int) : Rp × Int := if hasR S.hp i true ≠ 0 then (S, hasR S.hp i true) else (qset S i { nth S.cells i with n := (nth S.cells i).n + 1 }, 0)
def dropQ (S : Rp) (i : Int) : Rp × Int :=
  if hasR S.hp i true ≠ 0 then (S, hasR S.hp i true) else
  if (nth S.cells i).n = 0 then (S, 7) else
  (noteQ (qset S i { nth S.cells i with n := (nth S.cells i).n - 1 }) i, 0)
def countQ (S : Rp) (i : Int) : Int × Int := if hasR S.hp i false ≠ 0 then (0, hasR S.hp i false) else (countedR S i, 0)
/-- Bounds that keep the sums small. -/
structure QBnd (S : Rp) : Prop where
  shp : Shp S.cells
  n : ∀ c ∈ S.cells, -(2 ^ 50) ≤ c.n ∧ c.n ≤ 2 ^ 50
  notes : S.notes.length < 2 ^ 39
def QTo (S : Rp) (i f : Int) : Prop := (nth (nth S.cells i).fs f).is = true → (nth (nth S.cells i).fs f).weak = false → 0 ≤ (nth (nth S.cells i).fs f).to ∧ (nth (nth S.cells i).fs f).to < S.cells.length
theorem mem_set_of {cs : List Cel} {P : Cel → Prop} (h : ∀ c ∈ cs, P c) {i : Nat} {c : Cel} (hc : P c) : ∀ d ∈ cs.set i c, P d := by
  intro d hd
  rcases List.mem_or_eq_of_mem_set hd with hd | rfl
  · exact h d hd
  · exact hc
theorem QBnd.set {S : Rp} (h : QBnd S) {i : Int} {c : Cel} (h1 : c.fs.length ≤ 8) (h2 : -(2 ^ 50) ≤ c.n ∧ c.n ≤ 2 ^ 50) : QBnd (qset S i c) :=
  ⟨⟨by simpa using h.shp.len, mem_set_of h.shp.fl h1⟩, mem_set_of h.n h2, h.notes⟩
theorem Shp.set {cs : List Cel} (h : Shp cs) {i : Nat} {c : Cel} (h1 : c.fs.length ≤ 8) : Shp (cs.set i c) := ⟨by simpa using h.len, mem_set_of h.fl h1⟩
section
variable {k : Nat} {tg tg' : Tags} {H H' : AHeap} {b : Nat} {S : Rp} {fb : Nat} {cv nv : AV} {fc fn : Option Nat} {xs : List (AV × Cel)} {ff : Nat → Option Nat}
/-- What a call on the reference's heap leaves. -/
def ToQ (k : Nat) (tg : Tags) (H : AHeap) (b : Nat) (S' : Rp) (K : AHeap) : Prop := ∃ tg', Up k tg tg' H K ∧ RpR k tg' K b S'
theorem ToQ.from_ {tg1 : Tags} {H1 : AHeap} (hw : WF H) (hu : Up k tg tg1 H H1) {K : AHeap} (h : ToQ k tg1 H1 b S K) : ToQ k tg H b S K := by
  obtain ⟨tg', h1, h2⟩ := h
  exact ⟨tg', hu.trans hw h1, h2⟩
theorem c376 (D : D376 T) (hw : WF H) (hk : TagOk tg H) (h : RpI k tg H b S fb cv nv fc fn xs ff) {i : Int} : Calls T 376 [.ptr (some (b, 0)), .int .i64 i] H fun r K => r = .int .i64 (hasR S.hp i true) ∧ K = H := by
  refine Calls.fn D.pr D.fn ?_
  by_cases h0 : i < 0
  · have hR : hasR S.hp i true = 4 := by unfold hasR; rw [if_pos (.inl h0)]
    simp [ir376, h0, hR]
  · by_cases h1 : (S.cells.length : Int) ≤ i
    · have hR : hasR S.hp i true = 4 := by unfold hasR; rw [if_pos (.inr h1)]
      simp [ir376, h0, h1, h.ldc, h.lenC, hR]
    · obtain ⟨bo, oo, e1, e2, e3, e4, e5, e6, _⟩ := h.cell hw hk (i := i) (by omega) (by omega)
      have ia := h.ia (kk := .i64) (i := i) (by omega) (by omega)
      cases he : (nth S.cells i).e with
      | true =>
        have hR : hasR S.hp i true = 9 := by unfold hasR; rw [if_neg (show ¬ (i < 0 ∨ (S.hp.cells.length : Int) ≤ i) by show ¬ (i < 0 ∨ (S.cells.length : Int) ≤ i); omega), if_pos ⟨rfl, he⟩]
        simp [ir376, h0, h1, h.ldc, h.lenC, ia, e1, e5, he, hR]
      | false =>
        have hR : hasR S.hp i true = 0 := by unfold hasR; rw [if_neg (show ¬ (i < 0 ∨ (S.hp.cells.length : Int) ≤ i) by show ¬ (i < 0 ∨ (S.cells.length : Int) ≤ i); omega), if_neg (by simp [he])]
        simp [ir376, h0, h1, h.ldc, h.lenC, ia, e1, e5, he, hR]
theorem c375 (D : D375 T) (hw : WF H) (hk : TagOk tg H) (h : RpI k tg H b S fb cv nv fc fn xs ff) {i f : Int} : Calls T 375 [.ptr (some (b, 0)), .int .i64 i, .int .i64 f] H fun r K => r = .int .i64 (hasFieldR S.hp i f) ∧ K = H := by
  refine Calls.fn D.pr D.fn ?_
  simp [ir375]
  refine WC.of (c376 D.d376 hw hk h) ?_
  rintro r K ⟨rfl, rfl⟩
  by_cases hz : hasR S.hp i true = 0
  · obtain ⟨q1, q2, _⟩ := hasR_in hz
    simp only [Rp.hp_cells] at q2
    obtain ⟨bo, oo, e1, e2, _⟩ := h.cell hw hk (i := i) (by omega) (by omega)
    have ia := h.ia (kk := .i64) (i := i) (by omega) (by omega)
    have fl := (h.fld q1 q2).len
    by_cases f0 : f < 0
    · have hR : hasFieldR S.hp i f = 1 := by unfold hasFieldR; rw [if_neg (by simp [hz]), if_pos (.inl f0)]
      simp [hz, f0, hR]
    · by_cases f1 : ((nth S.cells i).fs.length : Int) ≤ f
      · have hR : hasFieldR S.hp i f = 1 := by unfold hasFieldR; rw [if_neg (by simp [hz]), if_pos (.inr f1)]
        simp [hz, f0, f1, hR, h.ldc, ia, e1, e2, fl]
      · have hR : hasFieldR S.hp i f = 0 := by unfold hasFieldR; rw [if_neg (by simp [hz]), if_neg (show ¬ (f < 0 ∨ ((nth S.hp.cells i).fs.length : Int) ≤ f) by show ¬ (f < 0 ∨ ((nth S.cells i).fs.length : Int) ≤ f); omega)]
        simp [hz, f0, f1, hR, h.ldc, ia, e1, e2, fl]
  · have hR : hasFieldR S.hp i f = hasR S.hp i true := by unfold hasFieldR; rw [if_pos hz]
    simp [hz, hR]
theorem wsem_st4 {b : Nat} {v' : AV} {H1 H2 : AHeap} {o : Nat} (hv : v'.cell = true) (h : H1.st b o [v'] = some H2) : wsem0 (.st 1) [.ptr (some (b, o)), v'] H1 = some (.undef, H2) := by
  have hc : v'.cells = [v'] := by cases v' <;> simp_all [AV.cells, AV.cell]
  simp [wsem0_st, hc, h]
theorem c377 (D : D377 T) (hw : WF H) (hk : TagOk tg H) (h : RpR k tg H b S) (hb : QBnd S) {i f : Int} (h0 : 0 ≤ i) (h1 : i < S.cells.length) (f0 : 0 ≤ f) (f1 : f < (nth S.cells i).fs.length) (hto : QTo S i f) :
    Calls T 377 [.ptr (some (b, 0)), .int .i64 i, .int .i64 f] H fun r K => r = .tup [] ∧ ToQ k tg H b (emptyQ S i f) K := by
  refine Calls.fn D.pr D.fn ?_
  obtain ⟨fb, cv, nv, fc, fn, xs, ff, h⟩ := h
  obtain ⟨x, hx⟩ : ∃ x, nth (nth S.cells i).fs f = x := ⟨_, rfl⟩
  unfold QTo at hto
  rw [hx] at hto
  have hS : emptyQ S i f = if x.is = true ∧ x.weak = false then noteQ (qset S i { nth S.cells i with fs := (nth S.cells i).fs.set f.toNat ⟨false, false, 0⟩ }) x.to else qset S i { nth S.cells i with fs := (nth S.cells i).fs.set f.toNat ⟨false, false, 0⟩ } := by
    unfold emptyQ; simp only [hx]
  have ia := h.ia (kk := .i64) h0 h1
  obtain ⟨bo, oo, e1, e2, _⟩ := h.cell hw hk h0 h1
  obtain ⟨b2, o2, p1, p2, _⟩ := h.setField hw hk h0 h1 f0 f1
  have ia2 := (h.fld h0 h1).ia (k := .i64) f0 f1
  have ld2 : rsem (.ld 3 true) [.ptr (some (b2, o2))] H = some (encG x) := by rw [hx] at p2; simp [rsem, p2, encG, AV.cells]
  obtain ⟨K1, s1, fr, s3⟩ := box_copy hw (n := 3) (zs := [.int .i64 0, .bool false, .bool false]) (ds := [.int .i64 x.to, .bool x.is, .bool x.weak]) rfl rfl (by simp [AV.cell])
  have up1 : Up k tg tg H K1 := Up.fr hw hk fr
  have g := h.fr hw fr
  obtain ⟨bo', oo', e1', e2', _⟩ := g.cell up1.wf up1.ok h0 h1
  obtain ⟨b3, o3, p1', _, st⟩ := g.setField up1.wf up1.ok h0 h1 f0 f1
  obtain ⟨K2, q1, q2, q3, g2⟩ := st ⟨false, false, 0⟩
  have q1' : wsem0 (.st 3) [.ptr (some (b3, o3)), .agg [.int .i64 0, .bool false, .bool false]] K1 = some (.undef, K2) := by simp only [encG, AV.cells] at q1; simp [wsem0_st, AV.cells, q1]
  have bx2 : Box K2 H.next H.next [.int .i64 x.to, .bool x.is, .bool x.weak] := s3.keeps up1.wf q3.keeps (by
    rintro ⟨t, ht⟩
    rw [hk _ (Nat.le_refl _)] at ht; cases ht)
  have l0 : rsem (.ld 1 false) [.ptr (some (H.next, 0))] K2 = some (.int .i64 x.to) := by simp [rsem, AHeap.ld, bx2.row]
  have l1 : rsem (.ld 1 false) [.ptr (some (H.next, 1))] K2 = some (.bool x.is) := by simp [rsem, AHeap.ld, bx2.row]
  have l2 : rsem (.ld 1 false) [.ptr (some (H.next, 2))] K2 = some (.bool x.weak) := by simp [rsem, AHeap.ld, bx2.row]
  have ia3 := g.ia (kk := .i64) h0 h1
  have ia4 := (g.fld h0 h1).ia (k := .i64) f0 f1
  have up2 : Up k tg tg H K2 := up1.trans hw q3
  obtain ⟨S1, hS1⟩ : ∃ S1, qset S i { nth S.cells i with fs := (nth S.cells i).fs.set f.toNat ⟨false, false, 0⟩ } = S1 := ⟨_, rfl⟩
  have g3 : RpI k tg K2 b S1 fb cv nv fc fn (xs.set i.toNat ((nth xs i).1, { nth S.cells i with fs := (nth S.cells i).fs.set f.toNat ⟨false, false, 0⟩ })) ff := by rw [← hS1]; exact g2
  have hfl := hb.shp.fl _ (nth_mem h0 h1)
  have hb1 : QBnd S1 := by rw [← hS1]; exact hb.set (by simpa using hfl) (by have := hb.n _ (nth_mem h0 h1); exact this)
  have hl1 : S1.cells.length = S.cells.length := by rw [← hS1]; simp
  rw [hS1] at hS
  have hz0 : psem (.bld [.int .i64 0, .bool false, .bool false] []) [] = some (.agg [.int .i64 0, .bool false, .bool false]) := by simp [psem_bld', fill]
  simp [ir377, h.ldc, ia, e1, e2, ia2, p1, ld2]
  simp [AV.cells, AV.cell, encG, s1, g.ldc, ia3, e1', e2', ia4, p1', hz0, q1', l1]
  cases his : x.is with
  | false =>
    simp [his]
    rw [hS, if_neg (by simp [his])]
    exact ⟨tg, up2, _, _, _, _, _, _, _, g3⟩
  | true =>
    simp [his, l2]
    cases hwk : x.weak with
    | true =>
      simp [hwk]
      rw [hS, if_neg (by simp [hwk])]
      exact ⟨tg, up2, _, _, _, _, _, _, _, g3⟩
    | false =>
      simp [hwk, l0]
      obtain ⟨t0, t1⟩ := hto his hwk
      have t1' : x.to < S1.cells.length := by rw [hl1]; exact t1
      have hbn := hb1.n _ (nth_mem t0 t1')
      rw [hS, if_pos ⟨his, hwk⟩]
      refine WC.of (c378 D.d378 up2.wf up2.ok g3 hb1.shp t0 t1' (by omega)) ?_
      rintro r K3 ⟨rfl, fr3⟩
      have g4 := g3.fr up2.wf fr3
      have up3 : Up k tg tg H K3 := up2.trans hw (Up.fr up2.wf up2.ok fr3)
      have l0' : rsem (.ld 1 false) [.ptr (some (H.next, 0))] K3 = some (.int .i64 x.to) := by
        have := bx2.keeps up2.wf fr3.keeps (by have := up2.wf.row_fam bx2.row; omega)
        simp [rsem, AHeap.ld, this.row]
      simp
      refine WB.bool ?_ ?_
      · intro hz
        simp at hz
        have hN : noteQ S1 x.to = { S1 with notes := S1.notes ++ [x.to] } := by unfold noteQ; rw [if_pos hz]
        rw [hN]
        obtain ⟨v', K4, K5, tg5, f5, r1, r2, r3, r4, r5⟩ := g4.pushNote up3.wf up3.ok x.to (by have := hb1.notes; omega)
        have hb1 := wsem0_bsl1 (v := .int .i64 x.to) (z := .int .i64 0) (H := K3) rfl
        have l0'' : rsem (.ld 1 false) [.ptr (some (b, 1))] (K3.new [.int .i64 x.to]) = some nv := (g4.fr up3.wf up3.wf.fr_new).ldn
        refine W_floats ?_
        simp [g4.ldn, l0', hb1, r1, wsem_st4 r2 r3]
        simp [floatOk, wanted, AV.same_refl, g4.ldn, l0'']
        exact ⟨tg5, up3.trans hw r4, _, _, _, _, _, _, _, r5⟩
      · intro hz
        simp at hz
        have hN : noteQ S1 x.to = S1 := by unfold noteQ; rw [if_neg hz]
        rw [hN]
        simp
        exact ⟨tg, up3, _, _, _, _, _, _, _, g4⟩
theorem c349 (D : D349 T) (hw : WF H) (hk : TagOk tg H) (h : RpR k tg H b S) (hb : QBnd S) {i f : Int} (hto : hasFieldR S.hp i f = 0 → QTo S i f) :
    Calls T 349 [.ptr (some (b, 0)), .int .i64 i, .int .i64 f] H fun r K => r = .int .i64 (clearQ S i f).2 ∧ ToQ k tg H b (clearQ S i f).1 K := by
  refine Calls.fn D.pr D.fn ?_
  obtain ⟨fb, cv, nv, fc, fn, xs, ff, h⟩ := h
  simp [ir349]
  refine WC.of (c375 D.d375 hw hk h) ?_
  rintro r K ⟨rfl, rfl⟩
  simp
  by_cases hz : hasFieldR S.hp i f = 0
  · have hR : clearQ S i f = (emptyQ S i f, 0) := by unfold clearQ; rw [if_neg (by simp [hz])]
    obtain ⟨q1, q2, _, q3, q4⟩ := hasFieldR_in hz
    simp [hz, hR]
    refine WC.of (c377 D.d377 hw hk ⟨_, _, _, _, _, _, _, h⟩ hb q1 q2 q3 q4 (hto hz)) ?_
    rintro r X ⟨rfl, t⟩
    simp
    exact t
  · have hR : clearQ S i f = (S, hasFieldR S.hp i f) := by unfold clearQ; rw [if_pos hz]
    simp [hz, hR]
    exact ⟨tg, Up.refl hw hk, _, _, _, _, _, _, _, h⟩
theorem emptyQ_cells {i f : Int} : (emptyQ S i f).cells = S.cells.set i.toNat { nth S.cells i with fs := (nth S.cells i).fs.set f.toNat ⟨false, false, 0⟩ } := by
  unfold emptyQ noteQ; simp only; split
  · split <;> rfl
  · rfl
theorem c348 (D : D348 T) (hw : WF H) (hk : TagOk tg H) (h : RpR k tg H b S) (hb : QBnd S) {i f to : Int} {weak : Bool} (hto : hasFieldR S.hp i f = 0 → QTo S i f) :
    Calls T 348 [.ptr (some (b, 0)), .int .i64 i, .int .i64 f, .int .i64 to, .bool weak] H fun r K => r = .int .i64 (setQ S i f to weak).2 ∧ ToQ k tg H b (setQ S i f to weak).1 K := by
  refine Calls.fn D.pr D.fn ?_
  obtain ⟨fb, cv, nv, fc, fn, xs, ff, h⟩ := h
  simp [ir348]
  refine WC.of (c375 D.d375 hw hk h) ?_
  rintro r K ⟨rfl, rfl⟩
  simp
  by_cases hz : hasFieldR S.hp i f = 0
  · simp [hz]
    refine WC.of (c376 D.d376 hw hk h) ?_
    rintro r K ⟨rfl, rfl⟩
    simp
    by_cases hz2 : hasR S.hp to true = 0
    · have hR : setQ S i f to weak = (qset (emptyQ S i f) i { nth (emptyQ S i f).cells i with fs := (nth (emptyQ S i f).cells i).fs.set f.toNat ⟨true, weak, to⟩ }, 0) := by unfold setQ; rw [if_neg (by simp [hz]), if_neg (by simp [hz2])]
      obtain ⟨q1, q2, _, q3, q4⟩ := hasFieldR_in hz
      simp only [Rp.hp_cells] at q2 q4
      simp [hz2, hR]
      refine WC.of (c377 D.d377 hw hk ⟨_, _, _, _, _, _, _, h⟩ hb q1 q2 q3 q4 (hto hz)) ?_
      rintro r X ⟨rfl, tg1, u1, fb, cv, nv, fc, fn, xs, ff, g⟩
      have hl : i < (emptyQ S i f).cells.length := by rw [emptyQ_cells, List.length_set]; exact q2
      have hf : f < (nth (emptyQ S i f).cells i).fs.length := by
        rw [emptyQ_cells, nth_set q1 q2 q1, if_pos rfl]
        simpa using q4
      obtain ⟨bo, oo, e1, e2, _⟩ := g.cell u1.wf u1.ok q1 hl
      obtain ⟨b3, o3, p1, _, st⟩ := g.setField u1.wf u1.ok q1 hl q3 hf
      obtain ⟨Y, r1, r2, r3, g2⟩ := st ⟨true, weak, to⟩
      have ia := g.ia (kk := .i64) q1 hl
      have ia2 := (g.fld q1 hl).ia (k := .i64) q3 hf
      have r1' : wsem0 (.st 3) [.ptr (some (b3, o3)), .agg [.int .i64 to, .bool true, .bool weak]] X = some (.undef, Y) := by simp only [encG, AV.cells] at r1; simp [wsem0_st, AV.cells, r1]
      have hbld : psem (.bld [.int .i64 0, .bool false, .bool false] [(0, 1), (1, 1), (2, 1)]) [.int .i64 to, .bool true, .bool weak] = some (.agg [.int .i64 to, .bool true, .bool weak]) := by simp [psem_bld', fill, AV.cells, AV.cell, splice]
      simp [g.ldc, ia, e1, e2, ia2, p1, hbld, r1']
      exact ⟨tg1, u1.trans hw r3, _, _, _, _, _, _, _, g2⟩
    · have hR : setQ S i f to weak = (S, hasR S.hp to true) := by unfold setQ; rw [if_neg (by simp [hz]), if_pos hz2]
      simp [hz2, hR]
      exact ⟨tg, Up.refl hw hk, _, _, _, _, _, _, _, h⟩
  · have hR : setQ S i f to weak = (S, hasFieldR S.hp i f) := by unfold setQ; rw [if_pos hz]
    simp [hz, hR]
    exact ⟨tg, Up.refl hw hk, _, _, _, _, _, _, _, h⟩
theorem c350 (D : D350 T) (hw : WF H) (hk : TagOk tg H) (h : RpR k tg H b S) (hb : QBnd S) {i : Int} :
    Calls T 350 [.ptr (some (b, 0)), .int .i64 i] H fun r K => r = .int .i64 (rootQ S i).2 ∧ ToQ k tg H b (rootQ S i).1 K := by
  refine Calls.fn D.pr D.fn ?_
  obtain ⟨fb, cv, nv, fc, fn, xs, ff, h⟩ := h
  simp [ir350]
  refine WC.of (c376 D.d376 hw hk h) ?_
  rintro r K ⟨rfl, rfl⟩
  simp
  by_cases hz : hasR S.hp i true = 0
  · have hR : rootQ S i = (qset S i { nth S.cells i with n := (nth S.cells i).n + 1 }, 0) := by unfold rootQ; rw [if_neg (by simp [hz])]
    obtain ⟨q1, q2, _⟩ := hasR_in hz
    simp only [Rp.hp_cells] at q2
    obtain ⟨bo, oo, e1, e2, e3, e4, e5, e6, _, _, _, st⟩ := h.cell hw hk q1 q2
    have ia := h.ia (kk := .i64) q1 q2
    have hn := hb.n _ (nth_mem q1 q2)
    obtain ⟨K1, r1, r2, r3, g⟩ := st ((nth S.cells i).n + 1)
    simp (disch := omega) [hz, h.ldc, ia, e1, e6, wrap64, r1, hR]
    exact ⟨tg, r3, _, _, _, _, _, _, _, g⟩
  · have hR : rootQ S i = (S, hasR S.hp i true) := by unfold rootQ; rw [if_pos hz]
    simp [hz, hR]
    exact ⟨tg, Up.refl hw hk, _, _, _, _, _, _, _, h⟩
theorem c351 (D : D351 T) (hw : WF H) (hk : TagOk tg H) (h : RpR k tg H b S) (hb : QBnd S) {i : Int} (hn0 : ∀ c ∈ S.cells, 0 ≤ c.n) :
    Calls T 351 [.ptr (some (b, 0)), .int .i64 i] H fun r K => r = .int .i64 (dropQ S i).2 ∧ ToQ k tg H b (dropQ S i).1 K := by
  refine Calls.fn D.pr D.fn ?_
  obtain ⟨fb, cv, nv, fc, fn, xs, ff, h⟩ := h
  simp [ir351]
  refine WC.of (c376 D.d376 hw hk h) ?_
  rintro r K ⟨rfl, rfl⟩
  simp
  by_cases hz : hasR S.hp i true = 0
  · obtain ⟨q1, q2, _⟩ := hasR_in hz
    simp only [Rp.hp_cells] at q2
    obtain ⟨bo, oo, e1, e2, e3, e4, e5, e6, _, _, _, st⟩ := h.cell hw hk q1 q2
    have ia := h.ia (kk := .i64) q1 q2
    have hn := hb.n _ (nth_mem q1 q2)
    have hn1 := hn0 _ (nth_mem q1 q2)
    have hfl := hb.shp.fl _ (nth_mem q1 q2)
    by_cases hr : (nth S.cells i).n = 0
    · have hR : dropQ S i = (S, 7) := by unfold dropQ; rw [if_neg (by simp [hz]), if_pos hr]
      simp [hz, h.ldc, ia, e1, e6, hr, hR]
      exact ⟨tg, Up.refl hw hk, _, _, _, _, _, _, _, h⟩
    · obtain ⟨S1, hS1⟩ : ∃ S1, qset S i { nth S.cells i with n := (nth S.cells i).n - 1 } = S1 := ⟨_, rfl⟩
      have hR : dropQ S i = (noteQ S1 i, 0) := by unfold dropQ; rw [if_neg (by simp [hz]), if_neg hr, hS1]
      have hb1 : QBnd S1 := by rw [← hS1]; exact hb.set hfl ⟨by simp only; omega, by simp only; omega⟩
      have hl1 : i < S1.cells.length := by rw [← hS1]; simpa using q2
      obtain ⟨K1, r1, r2, r3, g⟩ := st ((nth S.cells i).n - 1)
      have g : RpI k tg K1 b S1 fb cv nv fc fn (xs.set i.toNat ((nth xs i).1, { nth S.cells i with n := (nth S.cells i).n - 1 })) ff := by rw [← hS1]; exact g
      have hn2 := hb1.n _ (nth_mem q1 hl1)
      simp (disch := omega) [hz, h.ldc, ia, e1, e6, hr, wrap64, r1, hR]
      refine WC.of (c378 D.d378 r3.wf r3.ok g hb1.shp q1 hl1 (by omega)) ?_
      rintro r K3 ⟨rfl, fr3⟩
      have g4 := g.fr r3.wf fr3
      have up3 := r3.trans hw (Up.fr r3.wf r3.ok fr3)
      simp
      refine WB.bool ?_ ?_
      · intro hc
        simp at hc
        have hN : noteQ S1 i = { S1 with notes := S1.notes ++ [i] } := by unfold noteQ; rw [if_pos hc]
        rw [hN]
        obtain ⟨v', K4, K5, tg5, f5, r1, r2, r3, r4, r5⟩ := g4.pushNote up3.wf up3.ok i (by have := hb1.notes; omega)
        have hb1 := wsem0_bsl1 (v := .int .i64 i) (z := .int .i64 0) (H := K3) rfl
        simp [g4.ldn, hb1, r1, wsem_st4 r2 r3]
        exact ⟨tg5, up3.trans hw r4, _, _, _, _, _, _, _, r5⟩
      · intro hc
        simp at hc
        have hN : noteQ S1 i = S1 := by unfold noteQ; rw [if_neg hc]
        rw [hN]
        simp
        exact ⟨tg, up3, _, _, _, _, _, _, _, g4⟩
  · have hR : dropQ S i = (S, hasR S.hp i true) := by unfold dropQ; rw [if_pos hz]
    simp [hz, hR]
    exact ⟨tg, Up.refl hw hk, _, _, _, _, _, _, _, h⟩
end
end Go.Am

/- Contracts of the reference's heap: Make, Count, Get. -/
set_option linter.unusedVariables false
set_option linter.unusedSimpArgs false
namespace Go.Am
variable {T : Tab}
def makeQ (S : Rp) (n : Int) (w : Bool) : Rp × Int × Int := ((makeR S.hp n w).1.rp, (makeR S.hp n w).2)
section
variable {k : Nat} {tg tg' : Tags} {H0 H H' : AHeap} {b : Nat} {S : Rp} {fb : Nat} {cv nv : AV} {fc fn : Option Nat} {xs : List (AV × Cel)} {ff : Nat → Option Nat}
/-- A cell more. -/
theorem RpI.pushCell (h : RpI k tg H b S fb cv nv fc fn xs ff) (hw0 : WF H0) (u : Up k tg tg H0 H) {fv : AV} {l : List Fld} {f : Option Nat} (hv : Own encG 3 H fv l f) (hf : ∀ g, f = some g → H0.next ≤ g ∧ tg g = none) (w : Bool) (hl : S.cells.length < 2 ^ 30) :
    ∃ v' H1 H2 tg' xs' ff' fc', wsem0 (.app 5 40) [cv, .slc (some (H.next, 0)) 5 1 (some 1)] (H.new [fv, .bool w, .bool false, .bool false, .int .i64 0]) = some (v', H1) ∧ v'.cell = true ∧
      H1.st b 0 [v'] = some H2 ∧ Up k tg tg' H0 H2 ∧ RpI k tg' H2 b { S with cells := S.cells ++ [⟨l, w, false, false, 0⟩] } fb v' nv fc' fn xs' ff' := by
  have hw := u.wf
  have hk := u.ok
  obtain ⟨x, hx⟩ : ∃ x : AV × Cel, x = (fv, ⟨l, w, false, false, 0⟩) := ⟨_, rfl⟩
  have hfc : fv.cell = true := hv.1.form.1
  have hxc : (encC x).cells = [fv, .bool w, .bool false, .bool false, .int .i64 0] := by rw [hx]; rfl
  have hlx : xs.length = S.cells.length := h.len
  obtain ⟨v', H1, f', q1, q2, q3, q4, q5⟩ := app_push (bytes := 40) (ys := [x]) hw h.cs (by omega) (by simp [hxc]) (by simp only [List.mem_singleton, forall_eq, hxc, List.all_cons, hfc]; rfl) (by simp; omega) (by simp; omega)
  simp only [List.flatMap_cons, List.flatMap_nil, List.append_nil, hxc, List.length_singleton] at q1
  have hn1 : H.next ≤ H1.next := q4.next
  have h0n := u.keeps.next
  have flt : ∀ g, f = some g → g < H.next := fun g hg => by have := hv.2; rw [hg] at this; exact this.lt hw
  -- the tags
  obtain ⟨tgA, htA⟩ : ∃ tgA : Tags, tgA = fun g => if f = some g then some (k, Tag.fields S.cells.length) else tg g := ⟨_, rfl⟩
  have hAo : ∀ g j t, tg g = some (j, t) → tgA g = some (j, t) := by
    intro g j t ht
    rw [htA]
    simp only
    rw [if_neg]
    · exact ht
    · intro e; rw [(hf g e).2] at ht; cases ht
  have hAn : ∀ g, f = some g → tgA g = some (k, .fields S.cells.length) := by intro g hg; rw [htA]; simp [hg]
  obtain ⟨tg', htn, hold, htag, hok⟩ : ∃ tg' : Tags, (∀ g, f' = some g → tg' g = some (k, .cells)) ∧ (∀ g, g < H.next → tg' g = tgA g) ∧ (∀ g, tg' g = tg g ∨ ((tg.own k g ∨ H0.next ≤ g) ∧ ∀ j t, tg' g = some (j, t) → j = k)) ∧ TagOk tg' H1 := by
    have baseA : ∀ g, tgA g = tg g ∨ ((tg.own k g ∨ H0.next ≤ g) ∧ ∀ j t, tgA g = some (j, t) → j = k) := by
      intro g
      by_cases e : f = some g
      · exact .inr ⟨.inr (hf g e).1, fun j t ht => by rw [hAn g e] at ht; simp at ht; exact ht.1.symm⟩
      · exact .inl (by rw [htA]; simp [e])
    have okA : TagOk tgA H1 := fun g hg => by
      rw [htA]; simp only
      rw [if_neg (fun e => by have := flt g e; omega)]
      exact hk g (by omega)
    have keep : (∀ g, f' = some g → fc = some g) → ∃ tg' : Tags, (∀ g, f' = some g → tg' g = some (k, .cells)) ∧ (∀ g, g < H.next → tg' g = tgA g) ∧ (∀ g, tg' g = tg g ∨ ((tg.own k g ∨ H0.next ≤ g) ∧ ∀ j t, tg' g = some (j, t) → j = k)) ∧ TagOk tg' H1 :=
      fun hh => ⟨tgA, fun g hg => hAo _ _ _ (h.tc g (hh g hg)), fun _ _ => rfl, baseA, okA⟩
    cases f' with
    | none => exact keep (by intro g hg; cases hg)
    | some g =>
      rcases q5 g rfl with e | e
      · exact keep (by intro g' hg; simp at hg; subst hg; exact e)
      · have hlt := q3.2.lt q2
        refine ⟨upd tgA g (some (k, .cells)), (by intro g' hg; simp at hg; subst hg; exact upd_same _ _ _), fun g' hg' => upd_ne _ _ _ (by omega), fun g' => ?_, fun g' hg' => by rw [upd_ne _ _ _ (by omega)]; exact okA g' hg'⟩
        by_cases e' : g' = g
        · subst e'; exact .inr ⟨.inr (by omega), fun j t ht => by rw [upd_same] at ht; simp at ht; exact ht.1.symm⟩
        · rw [upd_ne _ _ _ e']; exact baseA g'
  have keepT : ∀ g t, g < H.next → tg g = some (k, t) → tg' g = some (k, t) := fun g t hg ht => by rw [hold g hg]; exact hAo _ _ _ ht
  have up1 : Up k tg tg' H0 H1 :=
    ⟨q2, hok, Keeps.drop hw0 ((u.keeps.mono fun g hg => .inl hg).trans (q4.mono fun g e => .inl ⟨_, h.tc g e⟩)), htag⟩
  have l1 := hw.row_fam h.box.row
  have tb' : tg' fb = some (k, .str) := keepT _ _ l1 h.tb
  have hb1 : Box H1 b fb [cv, nv] := h.box.keeps hw q4 fun e => h.ne (h.tc _ e) h.tb (by simp) rfl
  obtain ⟨H2, r1, r2, r3, r4, r5⟩ := hb1.st q2 (off := 0) (vs := [v']) (by simp) (by simpa using q3.1.form.1)
  rw [splice_one (by simp)] at r3
  have up2 : Up k tg' tg' H1 H2 := Up.one hok tb' r2 r5 r4
  have ne' : ∀ {g t}, tg' g = some (k, t) → t ≠ .str → g ≠ fb := by
    intro g t hg hne e; subst e; rw [tb'] at hg; simp at hg; exact hne hg.symm
  have olt : ∀ {α : Type} {enc : α → AV} {z : Nat} {v : AV} {m : List α} {ff : Option Nat} {g : Nat}, Own enc z H v m ff → ff = some g → g < H.next := by
    intro α enc z v m ff g ho hg
    have := ho.2; rw [hg] at this; exact this.lt hw
  refine ⟨v', H1, H2, tg', xs ++ [x], upd ff S.cells.length f, f', q1, q3.1.form.1, r1, up1.trans hw0 up2, by simpa using r3, tb', q3.keeps q2 r4 fun g hg => ne' (htn g hg) (by simp), htn, ?_, ?_, ?_, ?_⟩
  · exact (h.ns.keeps hw q4 fun g hg e => h.ne (h.tc _ e) (h.tn g hg) (by simp) rfl).keeps q2 r4 fun g hg => h.ne (h.tn g hg) h.tb (by simp)
  · intro g hg; exact keepT _ _ (olt h.ns hg) (h.tn g hg)
  · rw [List.map_append, h.xc, hx]; rfl
  · intro i y hy
    by_cases e : i = S.cells.length
    · subst e
      rw [List.getElem?_append_right (by omega), hlx, Nat.sub_self] at hy
      simp at hy
      subst hy
      rw [upd_same, hx]
      refine ⟨(hv.keeps hw q4 fun g hg e => ?_).keeps q2 r4 fun g hg => ?_, fun g hg => ?_⟩
      · have := h.tc g e; rw [(hf g hg).2] at this; cases this
      · have := h.tb; intro e; subst e; rw [(hf _ hg).2] at this; cases this
      · rw [hold _ (flt g hg)]; exact hAn g hg
    · have hi : i < xs.length := by
        have := (List.getElem?_eq_some_iff.1 hy).1
        rw [List.length_append, List.length_singleton] at this
        omega
      rw [List.getElem?_append_left hi] at hy
      rw [upd_ne _ _ _ e]
      obtain ⟨p1, p2⟩ := h.fs i y hy
      exact ⟨(p1.keeps hw q4 fun g hg e => h.ne (h.tc _ e) (p2 g hg) (by simp) rfl).keeps q2 r4 fun g hg => h.ne (p2 g hg) h.tb (by simp), fun g hg => keepT _ _ (olt p1 hg) (p2 g hg)⟩
theorem c347 (D : D347 T) (hw : WF H) (hk : TagOk tg H) (h : RpR k tg H b S) {n : Int} {w : Bool} (hl : S.cells.length ≤ 100) (hnl : S.notes.length < 2 ^ 39) :
    Calls T 347 [.ptr (some (b, 0)), .int .i64 n, .bool w] H fun r K => r = .tup [.int .i64 (makeQ S n w).2.1, .int .i64 (makeQ S n w).2.2] ∧ ToQ k tg H b (makeQ S n w).1 K := by
  refine Calls.fn D.pr D.fn ?_
  obtain ⟨fb, cv, nv, fc, fn, xs, ff, h⟩ := h
  have fin0 : ToQ k tg H b S H := ⟨tg, Up.refl hw hk, _, _, _, _, _, _, _, h⟩
  by_cases hn : n < 0
  · have hR : makeQ S n w = (S, 0, 1) := by unfold makeQ makeR; rw [if_pos (.inl hn)]; rfl
    simp [ir347, hn, hR]
    exact fin0
  · by_cases hn8 : 8 < n
    · have hR : makeQ S n w = (S, 0, 1) := by unfold makeQ makeR; rw [if_pos (.inr hn8)]; rfl
      simp [ir347, hn, hn8, hR]
      exact fin0
    · by_cases hc : S.cells.length = 100
      · have hR : makeQ S n w = (S, 0, 3) := by unfold makeQ makeR; rw [if_neg (by omega), if_pos (show S.hp.cells.length = 100 from hc)]; rfl
        simp [ir347, hn, hn8, h.ldc, h.lenC, hc, hR]
        exact fin0
      · obtain ⟨z, rfl⟩ : ∃ z : Nat, n = z := ⟨n.toNat, by omega⟩
        have hR : makeQ S (z : Int) w = ((⟨S.cells ++ [(⟨List.replicate z ⟨false, false, 0⟩, w, false, false, 0⟩ : Cel)], S.notes ++ [(S.cells.length : Int)]⟩ : Rp), (S.cells.length : Int), (0 : Int)) := by
          unfold makeQ makeR; rw [if_neg (by omega), if_neg (show ¬ S.hp.cells.length = 100 from hc)]; rfl
        have hc' : ¬ (100 : Int) ≤ (S.cells.length : Int) := by omega
        have hz : ¬ (z : Int) < 0 := by omega
        have hbld : psem (.bld [.slc none 0 0 none, .bool false, .bool false, .bool false, .int .i64 0] [(1, 1)]) [.bool w] = some (.agg [.slc none 0 0 none, .bool w, .bool false, .bool false, .int .i64 0]) := by simp [psem_bld', fill, AV.cells, AV.cell, splice]
        obtain ⟨K1, s1, fr1, s3⟩ := box_copy hw (n := 5) (zs := [.slc none 0 0 none, .bool false, .bool false, .bool false, .int .i64 0]) (ds := [.slc none 0 0 none, .bool w, .bool false, .bool false, .int .i64 0]) rfl rfl (by simp [AV.cell])
        rw [hR]
        simp [ir347, hz, hn8, h.ldc, h.lenC, hc', hbld, AV.cells, AV.cell, s1]
        refine W_loop (fun (i : Nat) e K => e 0 = .ptr (some (b, 0)) ∧ e 1 = .int .i64 z ∧ e 8 = .ptr (some (H.next, 0)) ∧ ∃ q : Nat, i + q = z ∧ e 9 = .int .i64 q ∧ Fr H K ∧ ∃ fv f, Box K H.next H.next [fv, .bool w, .bool false, .bool false, .int .i64 0] ∧ Own encG 3 K fv (List.replicate q ⟨false, false, 0⟩) f ∧ ∀ g, f = some g → H.next < g) id z ?_ ?_
        · exact ⟨by simp, by simp, by simp, 0, by simp, by simp, fr1, .slc none 0 0 none, none, s3, Own.nil (by simp), by simp⟩
        · rintro i e K ⟨x0, x1, x8, q, hq, x9, fr, fv, f, bx, ow, hf⟩
          simp [x1, x9]
          refine WB.bool ?_ ?_
          · intro hlt
            simp at hlt
            have hz0 : psem (.bld [.int .i64 0, .bool false, .bool false] []) [] = some (.agg [.int .i64 0, .bool false, .bool false]) := by simp [psem_bld', fill]
            have hbsl := wsem0_bslA (n := 3) (z := [.int .i64 0, .bool false, .bool false]) (cs := [.int .i64 0, .bool false, .bool false]) (H := K) rfl rfl (by simp [AV.cell]) (by omega)
            obtain ⟨v', K2, f', p1, p2, p3, p4, p5⟩ := app_push (bytes := 16) (ys := [(⟨false, false, 0⟩ : Fld)]) fr.wf ow (by omega) (by simp [encG, AV.cells]) (by simp [encG, AV.cells, AV.cell]) (by simp; omega) (by simp; omega)
            simp only [List.flatMap_cons, List.flatMap_nil, List.append_nil, List.length_singleton, encG, AV.cells] at p1
            have hbx1 : Box K2 H.next H.next [fv, .bool w, .bool false, .bool false, .int .i64 0] := bx.keeps fr.wf p4 fun e => by have := hf _ e; omega
            obtain ⟨K3, r1, r2, r3, r4, r5⟩ := hbx1.st p2 (off := 0) (vs := [v']) (by simp) (by simpa using p3.1.form.1)
            rw [splice_one (by simp)] at r3
            have l0 : rsem (.ld 1 false) [.ptr (some (H.next, 0))] K = some fv := by simp [rsem, AHeap.ld, bx.row]
            have hn := fr.next
            have hne' : ∀ g, f' = some g → H.next < g := by
              intro g hg
              rcases p5 g hg with e | e
              · exact hf g e
              · have : H.next < K.next := fr.wf.row_lt bx.row; omega
            simp (disch := omega) [x8, x9, l0, hz0, hbsl, p1, wsem_st4 p3.1.form.1 r1, wrap64]
            refine ⟨i - 1, by omega, x0, x1, q + 1, by omega, by simp, (fr.step p2 p4 fun g hg => by have := hf g hg; omega).step r2 r4 (fun g hg => by omega), v', by simpa using r3, f', ?_, hne'⟩
            have e : List.replicate q (⟨false, false, 0⟩ : Fld) ++ [⟨false, false, 0⟩] = List.replicate (q + 1) ⟨false, false, 0⟩ := by rw [List.replicate_succ']
            rw [← e]
            exact p3.keeps p2 r4 fun g hg => by have := hne' g hg; omega
          · intro hge
            simp at hge
            have hqz : q = z := by omega
            subst hqz
            have u1 : Up k tg tg H K := Up.fr hw hk fr
            have g := h.fr hw fr
            obtain ⟨v', K2, K3, tg2, xs2, ff2, fc2, p1, p2, p3, p4, p5⟩ := g.pushCell hw u1 ow (fun g hg => ⟨by have := hf g hg; omega, hk g (by have := hf g hg; omega)⟩) w (by omega)
            have hfc : fv.cell = true := ow.1.form.1
            have lA : rsem (.ld 5 true) [.ptr (some (H.next, 0))] K = some (.agg [fv, .bool w, .bool false, .bool false, .int .i64 0]) := bx.ldA rfl
            have hbsl := wsem0_bslA (n := 5) (z := [.slc none 0 0 none, .bool false, .bool false, .bool false, .int .i64 0]) (cs := [fv, .bool w, .bool false, .bool false, .int .i64 0]) (H := K) rfl rfl (by simp only [List.all_cons, hfc]; rfl) (by omega)
            have l0'' : rsem (.ld 1 false) [.ptr (some (b, 0))] (K.new [fv, .bool w, .bool false, .bool false, .int .i64 0]) = some cv := (g.fr u1.wf u1.wf.fr_new).ldc
            simp
            refine W_floats ?_
            simp [x0, x8, g.ldc, lA, hbsl, p1, wsem_st4 p2 p3]
            simp [floatOk, wanted, AV.same_refl, x0, g.ldc, l0'']
            have hl2 : ((S.cells ++ [(⟨List.replicate q ⟨false, false, 0⟩, w, false, false, 0⟩ : Cel)]).length : Int) - 1 = S.cells.length := by simp
            have lenC2 := p5.lenC
            obtain ⟨v3, K4, K5, tg3, f3, r1, r2, r3, r4, r5⟩ := p5.pushNote p4.wf p4.ok (S.cells.length : Int) (by simpa using by omega)
            have hb1 := wsem0_bsl1 (v := .int .i64 (S.cells.length : Int)) (z := .int .i64 0) (H := K3) rfl
            have l1'' : rsem (.ld 1 false) [.ptr (some (b, 1))] (K3.new [.int .i64 (S.cells.length : Int)]) = some nv := (p5.fr p4.wf p4.wf.fr_new).ldn
            have hw64 : IntKind.i64.wrap (S.cells.length : Int) = S.cells.length := wrap64 (by omega) (by omega)
            simp only [List.length_append, List.length_singleton, Int.natCast_add, Int.natCast_one] at lenC2
            refine W_floats ?_
            simp [x0, p5.ldn, p5.ldc, lenC2, hw64, hb1, r1, wsem_st4 r2 r3]
            simp [floatOk, wanted, AV.same_refl, x0, p5.ldn, l1'']
            have lenC3 := r5.lenC
            simp only [List.length_append, List.length_singleton, Int.natCast_add, Int.natCast_one] at lenC3
            simp [x0, r5.ldc, lenC3, hw64]
            exact ⟨tg3, p4.trans hw r4, _, _, _, _, _, _, _, r5⟩
end
end Go.Am

/- Contracts of the reference's heap: Count, State, Get, a cell that ends. -/
set_option linter.unusedVariables false
set_option linter.unusedSimpArgs false
namespace Go.Am
variable {T : Tab}
def weakQ (S : Rp) (a : Int) : Rp := { S with cells := S.cells.map (clrC a) }
def emptiesQ (S : Rp) (a : Int) : Nat → Rp
  | 0 => S
  | n + 1 => emptyQ (emptiesQ S a n) a n
def endQ (S : Rp) (a : Int) : Rp := emptiesQ (weakQ (qset S a { nth S.cells a with e := true }) a) a (nth S.cells a).fs.length
theorem hasR_false {S : Hp} {i : Int} : hasR S i false = if i < 0 ∨ (S.cells.length : Int) ≤ i then 4 else 0 := by
  unfold hasR
  split
  · rfl
  · simp
theorem hasR_out {S : Hp} {i : Int} (h : i < 0 ∨ (S.cells.length : Int) ≤ i) : hasR S i false = 4 := by rw [hasR_false, if_pos h]
theorem hasR_ok {S : Hp} {i : Int} (h0 : ¬ i < 0) (h1 : ¬ (S.cells.length : Int) ≤ i) : hasR S i false = 0 := by rw [hasR_false, if_neg (by omega)]
section
variable {k : Nat} {tg tg' : Tags} {H0 H H' : AHeap} {b : Nat} {S : Rp} {fb : Nat} {cv nv : AV} {fc fn : Option Nat} {xs : List (AV × Cel)} {ff : Nat → Option Nat}
theorem c354 (D : D354 T) (hw : WF H) (hk : TagOk tg H) (h : RpR k tg H b S) (hb : QBnd S) {i : Int} :
    Calls T 354 [.ptr (some (b, 0)), .int .i64 i] H fun r K => r = .tup [.int .i64 (countQ S i).1, .int .i64 (countQ S i).2] ∧ Fr H K := by
  refine Calls.fn D.pr D.fn ?_
  obtain ⟨fb, cv, nv, fc, fn, xs, ff, h⟩ := h
  by_cases h0 : i < 0
  · have hR : countQ S i = (0, 4) := by unfold countQ; rw [hasR_out (.inl h0)]; rfl
    simp [ir354, h0, hR]
    exact .refl hw
  · by_cases h1 : (S.cells.length : Int) ≤ i
    · have hR : countQ S i = (0, 4) := by unfold countQ; rw [hasR_out (.inr h1)]; rfl
      simp [ir354, h0, h.ldc, h.lenC, h1, hR]
      exact .refl hw
    · have hR : countQ S i = (countedR S i, 0) := by unfold countQ; rw [hasR_ok h0 h1]; rfl
      simp [ir354, h0, h.ldc, h.lenC, h1, hR]
      have hn := hb.n _ (nth_mem (l := S.cells) (i := i) (by omega) (by omega))
      refine WC.of (c378 D.d378 hw hk h hb.shp (by omega) (by omega) (by omega)) ?_
      rintro r K ⟨rfl, fr⟩
      simp
      exact fr
theorem c355 (D : D355 T) (hw : WF H) (hk : TagOk tg H) (h : RpR k tg H b S) {i : Int} :
    Calls T 355 [.ptr (some (b, 0)), .int .i64 i] H fun r K => r = .tup [.int .i64 (stateR S.hp i).1, .int .i64 (stateR S.hp i).2] ∧ K = H := by
  refine Calls.fn D.pr D.fn ?_
  obtain ⟨fb, cv, nv, fc, fn, xs, ff, h⟩ := h
  by_cases h0 : i < 0
  · have hR : stateR S.hp i = (0, 4) := by unfold stateR; rw [hasR_out (.inl h0)]; rfl
    simp [ir355, h0, hR]
  · by_cases h1 : (S.cells.length : Int) ≤ i
    · have hR : stateR S.hp i = (0, 4) := by unfold stateR; rw [hasR_out (.inr h1)]; rfl
      simp [ir355, h0, h.ldc, h.lenC, h1, hR]
    · obtain ⟨bo, oo, e1, e2, e3, e4, e5, e6, _⟩ := h.cell hw hk (i := i) (by omega) (by omega)
      have ia := h.ia (kk := .i64) (i := i) (by omega) (by omega)
      have hR : stateR S.hp i = if (nth S.cells i).e = true then (2, 0) else if (nth S.cells i).t = true then (1, 0) else (0, 0) := by
        unfold stateR; rw [hasR_ok h0 h1]; rfl
      cases he : (nth S.cells i).e with
      | true =>
        rw [if_pos he] at hR
        simp [ir355, h0, h.ldc, h.lenC, h1, ia, e1, e5, he, hR]
      | false =>
        rw [if_neg (by simp [he])] at hR
        cases ht : (nth S.cells i).t with
        | true =>
          rw [if_pos ht] at hR
          simp [ir355, h0, h.ldc, h.lenC, h1, ia, e1, e5, he, e4, ht, hR]
        | false =>
          rw [if_neg (by simp [ht])] at hR
          simp [ir355, h0, h.ldc, h.lenC, h1, ia, e1, e5, he, e4, ht, hR]
theorem c356 (D : D356 T) (hw : WF H) (hk : TagOk tg H) (h : RpR k tg H b S) {i f : Int} :
    Calls T 356 [.ptr (some (b, 0)), .int .i64 i, .int .i64 f] H fun r K => r = .tup [.int .i64 (getR S.hp i f).1.to, .bool (getR S.hp i f).1.is, .bool (getR S.hp i f).1.weak, .int .i64 (getR S.hp i f).2] ∧ Fr H K := by
  refine Calls.fn D.pr D.fn ?_
  obtain ⟨fb, cv, nv, fc, fn, xs, ff, h⟩ := h
  simp [ir356]
  refine WC.of (c375 D.d375 hw hk h) ?_
  rintro r K ⟨rfl, rfl⟩
  simp
  by_cases hz : hasFieldR S.hp i f = 0
  · obtain ⟨q1, q2, _, q3, q4⟩ := hasFieldR_in hz
    simp only [Rp.hp_cells] at q2 q4
    have hR : getR S.hp i f = (nth (nth S.cells i).fs f, 0) := by unfold getR; rw [if_neg (by simp [hz])]; rfl
    obtain ⟨z, rfl⟩ : ∃ z : Nat, i = z := ⟨i.toNat, by omega⟩
    obtain ⟨y, rfl⟩ : ∃ y : Nat, f = y := ⟨f.toNat, by omega⟩
    obtain ⟨bo, oo, b2, o2, X, p1, p2, p3, p4, p5, p6, p7, p8, p9, p10, p11⟩ := h.field hw hk (i := z) (j := y) (by exact_mod_cast q2) (by exact_mod_cast q4)
    have ia := h.ia (kk := .i64) q1 q2
    simp [hz, h.ldc, ia, p1, p2, p4, p5, p6, AV.cells, AV.cell, p7, p9, p10, p11, hR]
    exact p8
  · have hR : getR S.hp i f = (⟨false, false, 0⟩, hasFieldR S.hp i f) := by unfold getR; rw [if_pos hz]
    simp [hz, hR]
    exact .refl hw
/-- What holds while fields are cleared. -/
def MidQ (k : Nat) (tg : Tags) (H : AHeap) (b : Nat) (S : Rp) (fb : Nat) (cv nv : AV) (fc fn : Option Nat) (ff : Nat → Option Nat) (K : AHeap) (cs : List Cel) : Prop :=
  ∃ xs, Up k tg tg H K ∧ RpI k tg K b { S with cells := cs } fb cv nv fc fn xs ff
theorem MidQ.same {K : AHeap} {cs cs' : List Cel} (h : MidQ k tg H b S fb cv nv fc fn ff K cs) (e : cs = cs') : MidQ k tg H b S fb cv nv fc fn ff K cs' := by rw [← e]; exact h
theorem c379 (D : D379 T) (hw : WF H) (hk : TagOk tg H) (h : RpR k tg H b S) {a : Int} (h0 : 0 ≤ a) (h1 : a < S.cells.length) (hcl : S.cells.length < 2 ^ 40) (hfl : ∀ c ∈ S.cells, c.fs.length < 2 ^ 40)
    (hlen : ∀ n, n ≤ (nth S.cells a).fs.length → (emptiesQ (weakQ (qset S a { nth S.cells a with e := true }) a) a n).cells.length = S.cells.length ∧ (nth (emptiesQ (weakQ (qset S a { nth S.cells a with e := true }) a) a n).cells a).fs.length = (nth S.cells a).fs.length)
    (hE : ∀ n, n < (nth S.cells a).fs.length → ∀ K tg, WF K → TagOk tg K → RpR k tg K b (emptiesQ (weakQ (qset S a { nth S.cells a with e := true }) a) a n) →
      Calls T 377 [.ptr (some (b, 0)), .int .i64 a, .int .i64 n] K fun r K' => r = .tup [] ∧ ToQ k tg K b (emptiesQ (weakQ (qset S a { nth S.cells a with e := true }) a) a (n + 1)) K') :
    Calls T 379 [.ptr (some (b, 0)), .int .i64 a] H fun r K => r = .tup [] ∧ ToQ k tg H b (endQ S a) K := by
  refine Calls.fn D.pr D.fn ?_
  obtain ⟨fb, cv, nv, fc, fn, xs, ff, h⟩ := h
  obtain ⟨bo, oo, e1, _, _, _, _, _, _, _, st, _⟩ := h.cell hw hk h0 h1
  have ia := h.ia (kk := .i64) h0 h1
  obtain ⟨K1, r1, r2, r3, g⟩ := st true
  have hfa : ∀ c ∈ (qset S a { nth S.cells a with e := true }).cells, c.fs.length < 2 ^ 40 := mem_set_of hfl (hfl (nth S.cells a) (nth_mem h0 h1))
  obtain ⟨S1, hS⟩ : ∃ S1, qset S a { nth S.cells a with e := true } = S1 := ⟨_, rfl⟩
  have hS1 : S1.cells.length = S.cells.length := by rw [← hS]; simp
  have g' : RpI k tg K1 b S1 fb cv nv fc fn (xs.set a.toNat ((nth xs a).1, { nth S.cells a with e := true })) ff := by rw [← hS]; exact g
  unfold endQ
  rw [hS] at hfa hE hlen ⊢
  clear g
  have hcl1 : (S1.cells.length : Int) < 2 ^ 40 := by rw [hS1]; exact_mod_cast hcl
  simp (disch := omega) [ir379, h.ldc, ia, e1, r1]
  refine W_loop (fun (i : Nat) e K => e 0 = .ptr (some (b, 0)) ∧ e 1 = .int .i64 a ∧ ∃ j : Nat, i + j = S1.cells.length ∧ e 4 = .int .i64 j ∧ MidQ k tg K1 b S1 fb cv nv fc fn ff K (stg (clrC a) S1.cells j)) id S1.cells.length ?_ ?_
  · refine ⟨by simp, by simp, 0, by simp, by simp, ?_⟩
    rw [stg_zero]
    exact ⟨_, Up.refl r3.wf r3.ok, g'⟩
  · rintro i e K ⟨x0, x1, j, hj, x4, mid⟩
    have lenj := stg_len (g := clrC a) (l := S1.cells) (i := j)
    obtain ⟨ys, mu, mg⟩ := mid
    have lc := mg.lenC
    simp only [lenj] at lc
    simp [x0, x4, mg.ldc, lc]
    refine WB.bool ?_ ?_
    · intro hlt
      simp at hlt
      have hjl : j < (stg (clrC a) S1.cells j).length := by rw [lenj]; exact hlt
      have hnth := stg_nth (g := clrC a) hlt
      have hmem : nth S1.cells (j : Int) ∈ S1.cells := nth_mem (by omega) (by omega)
      have hfsl := hfa _ hmem
      simp
      refine W_loop (fun (z : Nat) e X => e 0 = .ptr (some (b, 0)) ∧ e 1 = .int .i64 a ∧ e 4 = .int .i64 j ∧
        ∃ q : Nat, z + q = (nth S1.cells (j : Int)).fs.length ∧ e 5 = .int .i64 q ∧ MidQ k tg K1 b S1 fb cv nv fc fn ff X ((stg (clrC a) S1.cells j).set j { nth S1.cells (j : Int) with fs := stg (clr a) (nth S1.cells (j : Int)).fs q })) id (nth S1.cells (j : Int)).fs.length ?_ ?_
      · refine ⟨by simp [x0], by simp [x1], by simp [x4], 0, by simp, by simp, MidQ.same ⟨ys, mu, mg⟩ ?_⟩
        rw [stg_zero]
        refine (setSame ?_).symm
        have := nth_eq (l := stg (clrC a) S1.cells j) (i := (j : Int)) (by omega) (by exact_mod_cast hjl)
        rw [hnth] at this
        simpa using this
      · rintro z e X ⟨x0, x1, x4, q, hq, x5, zs, mu2, mg2⟩
        obtain ⟨cs, hcs⟩ : ∃ cs, (stg (clrC a) S1.cells j).set j { nth S1.cells (j : Int) with fs := stg (clr a) (nth S1.cells (j : Int)).fs q } = cs := ⟨_, rfl⟩
        have hc : nth cs (j : Int) = { nth S1.cells (j : Int) with fs := stg (clr a) (nth S1.cells (j : Int)).fs q } := by
          rw [← hcs]
          have := nth_set (l := stg (clrC a) S1.cells j) (i := (j : Int)) (j := (j : Int)) (x := { nth S1.cells (j : Int) with fs := stg (clr a) (nth S1.cells (j : Int)).fs q }) (by omega) (by exact_mod_cast hjl) (by omega)
          simpa using this
        have hcsl : j < cs.length := by rw [← hcs]; simpa using hjl
        have hfle : (nth cs (j : Int)).fs.length = (nth S1.cells (j : Int)).fs.length := by rw [hc]; simp only [stg_len]
        rw [hcs] at mg2
        have hcsI : (j : Int) < ({ S1 with cells := cs } : Rp).cells.length := by simpa using hcsl
        obtain ⟨bo2, oo2, f1, f2, _⟩ := mg2.cell mu2.wf mu2.ok (i := (j : Int)) (by omega) hcsI
        have iaj := mg2.ia (kk := .i64) (i := (j : Int)) (by omega) hcsI
        have fl := (mg2.fld (i := (j : Int)) (by omega) hcsI).len
        simp only [hfle] at fl
        simp [x0, x4, x5, mg2.ldc, iaj, f1, f2, fl]
        refine WB.bool ?_ ?_
        · intro hlt2
          simp at hlt2
          have hfq : q < (nth ({ S1 with cells := cs } : Rp).cells (j : Int)).fs.length := by simp only [hfle]; exact hlt2
          obtain ⟨bo3, oo3, b2, o2, Y, p1, p2, p3, p4, p5, p6, p7, p8, p9, p10, p11⟩ := mg2.field mu2.wf mu2.ok (i := j) (j := q) (by simpa using hcsl) hfq
          rw [f1] at p1
          simp only [AV.ptr.injEq, Option.some.injEq, Prod.mk.injEq] at p1
          obtain ⟨rfl, rfl⟩ := p1
          have hx : nth (nth cs (j : Int)).fs (q : Int) = nth (nth S1.cells (j : Int)).fs (q : Int) := by rw [hc]; exact stg_nth hlt2
          simp only [hx] at p6 p7 p9 p10 p11
          obtain ⟨x, hxx⟩ : ∃ x, nth (nth S1.cells (j : Int)).fs (q : Int) = x := ⟨_, rfl⟩
          rw [hxx] at p6 p7 p9 p10 p11
          have uY : Up k tg tg X Y := Up.fr mu2.wf mu2.ok p8
          have gY := mg2.fr mu2.wf p8
          obtain ⟨bo4, oo4, d1, d2, _⟩ := gY.cell uY.wf uY.ok (i := (j : Int)) (by omega) hcsI
          obtain ⟨b5, o5, w1, _, st5⟩ := gY.setField uY.wf uY.ok (i := (j : Int)) (by omega) hcsI (f := (q : Int)) (by omega) (by exact_mod_cast hfq)
          rw [f1] at d1
          simp only [AV.ptr.injEq, Option.some.injEq, Prod.mk.injEq] at d1
          obtain ⟨rfl, rfl⟩ := d1
          rw [p5] at w1
          simp only [AV.ptr.injEq, Option.some.injEq, Prod.mk.injEq] at w1
          obtain ⟨rfl, rfl⟩ := w1
          obtain ⟨Z, v1, v2, v3, v4⟩ := st5 ⟨false, false, 0⟩
          have v1' : wsem0 (.st 3) [.ptr (some (b2, o2)), .agg [.int .i64 0, .bool false, .bool false]] Y = some (.undef, Z) := by simp only [encG, AV.cells] at v1; simp [wsem0_st, AV.cells, v1]
          have v4' : ∃ ws, RpI k tg Z b { S1 with cells := cs.set j { nth cs (j : Int) with fs := (nth cs (j : Int)).fs.set q ⟨false, false, 0⟩ } } fb cv nv fc fn ws ff := ⟨_, by simpa using v4⟩
          obtain ⟨ws, v4'⟩ := v4'
          have next : ∀ W, MidQ k tg K1 b S1 fb cv nv fc fn ff W (cs.set j { nth cs (j : Int) with fs := (nth cs (j : Int)).fs.set q (clr a x) }) → MidQ k tg K1 b S1 fb cv nv fc fn ff W ((stg (clrC a) S1.cells j).set j { nth S1.cells (j : Int) with fs := stg (clr a) (nth S1.cells (j : Int)).fs (q + 1) }) := by
            intro W hW
            refine hW.same ?_
            rw [hc, ← hcs, set_set, ← hxx]
            simp only
            rw [fs_stage a hlt2]
          have same : clr a x = x → cs.set j { nth cs (j : Int) with fs := (nth cs (j : Int)).fs.set q (clr a x) } = cs := by
            intro e
            refine setSame ?_
            have e1 := nth_eq (l := cs) (i := (j : Int)) (by omega) (by exact_mod_cast hcsl)
            simp only [Int.toNat_natCast] at e1
            rw [e1, e]
            have e2 := nth_eq (l := (nth cs (j : Int)).fs) (i := (q : Int)) (by omega) (by exact_mod_cast hfq)
            simp only [Int.toNat_natCast, hx, hxx] at e2
            rw [setSame e2]
          have midY : MidQ k tg K1 b S1 fb cv nv fc fn ff Y cs := ⟨_, mu2.trans r3.wf uY, gY⟩
          have midZ : MidQ k tg K1 b S1 fb cv nv fc fn ff Z (cs.set j { nth cs (j : Int) with fs := (nth cs (j : Int)).fs.set q ⟨false, false, 0⟩ }) := ⟨_, (mu2.trans r3.wf uY).trans r3.wf v3, v4'⟩
          have iaY := gY.ia (kk := .i64) (i := (j : Int)) (by omega) hcsI
          simp [x0, x1, x4, x5, mg2.ldc, iaj, f1, f2, p4, p5, p6, AV.cells, AV.cell, p7, p10]
          cases his : x.is with
          | false =>
            have hcl : clr a x = x := by unfold clr; rw [if_neg (by simp [his])]
            have nx := next Y (by rw [same hcl]; exact midY)
            simp (disch := omega) [x5, wrap64]
            exact ⟨z - 1, by omega, x0, x1, x4, q + 1, by omega, by simp, nx⟩
          | true =>
            simp [p11]
            cases hwk : x.weak with
            | false =>
              have hcl : clr a x = x := by unfold clr; rw [if_neg (by simp [hwk])]
              have nx := next Y (by rw [same hcl]; exact midY)
              simp (disch := omega) [x5, wrap64]
              exact ⟨z - 1, by omega, x0, x1, x4, q + 1, by omega, by simp, nx⟩
            | true =>
              simp [p9, x1]
              refine WB.bool ?_ ?_
              · intro hto
                simp at hto
                have hcl : clr a x = ⟨false, false, 0⟩ := by unfold clr; rw [if_pos ⟨his, hwk, hto⟩]
                have nx := next Z (by rw [hcl]; exact midZ)
                have hz0 : psem (.bld [.int .i64 0, .bool false, .bool false] []) [] = some (.agg [.int .i64 0, .bool false, .bool false]) := by simp [psem_bld', fill]
                simp (disch := omega) [x0, x4, x5, gY.ldc, iaY, f1, d2, p4, p5, hz0, v1', wrap64]
                exact ⟨z - 1, by omega, x1, q + 1, by omega, by simp, nx⟩
              · intro hto
                simp at hto
                have hcl : clr a x = x := by unfold clr; rw [if_neg (by simp [hto])]
                have nx := next Y (by rw [same hcl]; exact midY)
                simp (disch := omega) [x5, wrap64]
                exact ⟨z - 1, by omega, x0, x1, x4, q + 1, by omega, by simp, nx⟩
        · intro hge
          simp at hge
          have nx : MidQ k tg K1 b S1 fb cv nv fc fn ff X (stg (clrC a) S1.cells (j + 1)) := MidQ.same ⟨zs, mu2, mg2⟩ (by
            rw [← hcs, stg_all hge]
            exact stg_set hlt)
          simp (disch := omega) [x4, wrap64]
          exact ⟨i - 1, by omega, x0, x1, j + 1, by omega, by simp, nx⟩
    · intro hge
      simp at hge
      rw [stg_all (by omega)] at mg
      have hS2 : ({ S1 with cells := S1.cells.map (clrC a) } : Rp) = weakQ S1 a := rfl
      rw [hS2] at mg
      have hfl2 := hfl _ (nth_mem h0 h1)
      simp
      refine W_loop (fun (z : Nat) e X => e 0 = .ptr (some (b, 0)) ∧ e 1 = .int .i64 a ∧ ∃ q : Nat, z + q = (nth S.cells a).fs.length ∧ e 7 = .int .i64 q ∧ ∃ tg', Up k tg tg' H X ∧ RpR k tg' X b (emptiesQ (weakQ S1 a) a q)) id (nth S.cells a).fs.length ?_ ?_
      · exact ⟨by simp [x0], by simp [x1], 0, by simp, by simp, tg, r3.trans hw mu, _, _, _, _, _, _, _, mg⟩
      · rintro z e X ⟨x0, x1, q, hq, x7, tg', u', g2⟩
        obtain ⟨l1, l2⟩ := hlen q (by omega)
        obtain ⟨fb2, cv2, nv2, fc2, fn2, xs2, ff2, g3⟩ := g2
        have h1' : a < (emptiesQ (weakQ S1 a) a q).cells.length := by rw [l1]; exact h1
        obtain ⟨bo', oo', f1, f2, _⟩ := g3.cell u'.wf u'.ok h0 h1'
        have ia' := g3.ia (kk := .i64) h0 h1'
        have fl := (g3.fld h0 h1').len
        rw [l2] at fl
        simp [x0, x1, x7, g3.ldc, ia', f1, f2, fl]
        refine WB.bool ?_ ?_
        · intro hlt
          simp at hlt
          simp [x0, x1, x7]
          refine WC.of (hE q hlt X tg' u'.wf u'.ok ⟨_, _, _, _, _, _, _, g3⟩) ?_
          rintro r Y ⟨rfl, tg2, u2, g4⟩
          simp (disch := omega) [x7, wrap64]
          exact ⟨z - 1, by omega, x0, x1, q + 1, by omega, by simp, tg2, u'.trans hw u2, g4⟩
        · intro hge
          simp at hge
          have : q = (nth S.cells a).fs.length := by omega
          subst this
          simp
          exact ⟨tg', u', _, _, _, _, _, _, _, g3⟩
end
end Go.Am
