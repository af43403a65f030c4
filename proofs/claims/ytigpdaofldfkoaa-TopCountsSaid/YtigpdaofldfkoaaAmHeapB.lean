/- The heap of package heap: what stores to its cells, fields, notes and roots leave. -/
import Derived.Test.YtigpdaofldfkoaaAmHeapA
set_option linter.unusedVariables false
set_option linter.unusedSimpArgs false
namespace Go.Am
theorem Own.congr {α : Type} {enc : α → AV} {sz : Nat} {H : AHeap} {v : AV} {l l' : List α} {f : Option Nat} (h : Own enc sz H v l f) (e : l.map enc = l'.map enc) : Own enc sz H v l' f := by
  have hl : l.length = l'.length := by have := congrArg List.length e; simpa using this
  have hfm : ∀ l : List α, (l.flatMap fun x => (enc x).cells) = (l.map enc).flatMap AV.cells := fun l => by simp [List.flatMap_map]
  obtain ⟨⟨hz, p, sv, cap, rfl, hcap, h2⟩, hf⟩ := h
  have hz' : ∀ x ∈ l', (enc x).cells.length = sz := by
    intro x hx
    have : enc x ∈ l.map enc := by rw [e]; exact List.mem_map.2 ⟨x, hx, rfl⟩
    obtain ⟨y, hy, hxy⟩ := List.mem_map.1 this
    rw [← hxy]; exact hz y hy
  refine ⟨⟨hz', p, sv, cap, by rw [hl], by rw [← hl]; exact hcap, ?_⟩, hf⟩
  cases p with
  | none => exact List.eq_nil_of_length_eq_zero (by rw [← hl]; simp [show l = [] from h2])
  | some q =>
    obtain ⟨b, off⟩ := q
    obtain ⟨h3, g, cs, h4, h5, h6⟩ := h2
    exact ⟨h3, g, cs, h4, by rw [← hl]; exact h5, by rw [← hl, h6, hfm, hfm, e]⟩
theorem nth_eq {α : Type} [Inhabited α] {l : List α} {i : Int} (h0 : 0 ≤ i) (h1 : i < l.length) : l[i.toNat]? = some (nth l i) := by
  have : i.toNat < l.length := by omega
  simp [nth, List.getElem?_eq_getElem this]
theorem nth_set {α : Type} [Inhabited α] {l : List α} {i j : Int} (h0 : 0 ≤ i) (h1 : i < l.length) (hj : 0 ≤ j) {x : α} : nth (l.set i.toNat x) j = if i = j then x else nth l j := by
  unfold nth
  rw [List.getD_eq_getElem?_getD, List.getElem?_set]
  by_cases e : i = j
  · subst e; rw [if_pos rfl, if_pos (by omega), if_pos rfl]; rfl
  · rw [if_neg (by omega), if_neg e, List.getD_eq_getElem?_getD]
section
variable {k : Nat} {tg tg' : Tags} {H H' : AHeap} {b : Nat} {lk : Int} {S : Hp} {fb m : Nat} {cv nv : AV} {fc fn : Option Nat} {xs : List (AV × Cel)} {ff : Nat → Option Nat}
theorem HpI.at (h : HpI k tg H b lk S fb m cv nv fc fn xs ff) {i : Int} (h0 : 0 ≤ i) (h1 : i < S.cells.length) : (nth xs i).2 = nth S.cells i ∧ xs[i.toNat]? = some (nth xs i) := by
  have hl := h.len
  have e := nth_eq (l := xs) h0 (by omega)
  refine ⟨?_, e⟩
  rw [← h.xc]
  have : (xs.map (·.2))[i.toNat]? = some (nth xs i).2 := by rw [List.getElem?_map, e]; rfl
  have e2 := nth_eq (l := xs.map (·.2)) h0 (by simp; omega)
  rw [this] at e2; simpa using e2
/-- A cell's own words are written. -/
theorem HpI.setCell (h : HpI k tg H b lk S fb m cv nv fc fn xs ff) (hw : WF H) (hk : TagOk tg H) {i : Int} (h0 : 0 ≤ i) (h1 : i < S.cells.length) :
    ∃ bo oo, elt cv 5 i = .ptr (some (bo, oo)) ∧
      (∀ o n, o + n ≤ 5 → H.ld bo (oo + o) n = some (((encC (nth xs i)).cells.drop o).take n)) ∧
      ∀ c o v, 0 < o → o < 5 → v.cell = true → c.fs = (nth S.cells i).fs → (encC ((nth xs i).1, c)).cells = (encC (nth xs i)).cells.set o v →
        ∃ H', H.st bo (oo + o) [v] = some H' ∧ H'.next = H.next ∧ Up k tg tg H H' ∧ HpI k tg H' b lk { S with cells := S.cells.set i.toNat c } fb m cv nv fc fn (xs.set i.toNat ((nth xs i).1, c)) ff := by
  have hl := h.len
  obtain ⟨a1, a2⟩ := h.at h0 h1
  obtain ⟨bo, oo, e1, e2, e3⟩ := h.cs.at hw h0 (by omega)
  refine ⟨bo, oo, e1, e2, ?_⟩
  intro c o v ho ho5 hv hfs hc
  obtain ⟨H', r1, r2, r3, r4, r5⟩ := e3 ((nth xs i).1, c) o [v] (by simpa using hv) (by simp; omega) (by rw [hc, splice_one]; simp [encC, AV.cells]; omega)
  refine ⟨H', r1, r5, Up.oneO hk h.tc r2 r5 r4, h.box.keeps hw r4 fun e => h.ne (h.tc _ e) h.tb (by simp) rfl, h.tb, r3, h.tc, h.ns.keeps hw r4 fun g hg e => h.ne (h.tc _ e) (h.tn g hg) (by simp) rfl, h.tn, ?_, ?_, h.mp.keeps r4 fun e => h.ne (h.tc _ e) h.tm (by simp) rfl, h.tm⟩
  · rw [List.map_set, h.xc]
  · intro j x hx
    rw [List.getElem?_set] at hx
    have keep : ∀ y, xs[j]? = some y → Own encF 3 H' y.1 y.2.fs (ff j) ∧ ∀ g, ff j = some g → tg g = some (k, .fields j) := fun y hy => by
      obtain ⟨p1, p2⟩ := h.fs j y hy
      exact ⟨p1.keeps hw r4 fun g hg e => h.ne (h.tc _ e) (p2 g hg) (by simp) rfl, p2⟩
    split at hx
    · rename_i e
      split at hx
      · simp at hx
        subst hx
        subst e
        have := keep _ a2
        rw [a1] at this
        simpa [hfs] using this
      · cases hx
    · exact keep x hx
/-- A field is written. -/
theorem HpI.setField (h : HpI k tg H b lk S fb m cv nv fc fn xs ff) (hw : WF H) (hk : TagOk tg H) {i : Int} (h0 : 0 ≤ i) (h1 : i < S.cells.length) {f : Int} (f0 : 0 ≤ f) (f1 : f < (nth S.cells i).fs.length) :
    ∃ bo oo, elt (nth xs i).1 3 f = .ptr (some (bo, oo)) ∧ H.ld bo oo 3 = some (encF (nth (nth S.cells i).fs f)).cells ∧
      ∀ y, ∃ H', H.st bo oo (encF y).cells = some H' ∧ H'.next = H.next ∧ Up k tg tg H H' ∧
        HpI k tg H' b lk { S with cells := S.cells.set i.toNat { nth S.cells i with fs := (nth S.cells i).fs.set f.toNat y } } fb m cv nv fc fn (xs.set i.toNat ((nth xs i).1, { nth S.cells i with fs := (nth S.cells i).fs.set f.toNat y })) ff := by
  obtain ⟨a1, a2⟩ := h.at h0 h1
  obtain ⟨p1, p2⟩ := h.fs _ _ a2
  rw [a1] at p1
  obtain ⟨bo, oo, e1, e2, e3⟩ := p1.at hw f0 f1
  refine ⟨bo, oo, e1, by have := e2 0 3 (by omega); simpa [encF, AV.cells] using this, ?_⟩
  intro y
  obtain ⟨H', r1, r2, r3, r4, r5⟩ := e3 y 0 (encF y).cells (by simp [encF, AV.cells, AV.cell]) (by simp [encF, AV.cells]) (by simp [encF, AV.cells, splice])
  have kc := h.cs.keeps hw r4 fun g hg e => h.ne (h.tc g hg) (p2 _ e) (by simp) rfl
  refine ⟨H', by simpa using r1, r5, Up.oneO hk p2 r2 r5 r4, h.box.keeps hw r4 fun e => h.ne (p2 _ e) h.tb (by simp) rfl, h.tb, kc.congr ?_, h.tc, h.ns.keeps hw r4 fun g hg e => h.ne (p2 _ e) (h.tn g hg) (by simp) rfl, h.tn, ?_, ?_, h.mp.keeps r4 fun e => h.ne (p2 _ e) h.tm (by simp) rfl, h.tm⟩
  · rw [List.map_set]
    refine (set_same' ?_).symm
    rw [List.getElem?_map, a2]
    simp [encC, a1]
  · rw [List.map_set, h.xc]
  · intro j x hx
    rw [List.getElem?_set] at hx
    split at hx
    · rename_i e
      split at hx
      · simp at hx
        subst hx
        subst e
        exact ⟨r3, p2⟩
      · cases hx
    · rename_i e
      obtain ⟨q1, q2⟩ := h.fs j x hx
      refine ⟨q1.keeps hw r4 fun g hg e' => h.ne (p2 _ e') (q2 g hg) (by simp; exact e) rfl, q2⟩
where
  set_same' {α : Type} {l : List α} {i : Nat} {x : α} (h : l[i]? = some x) : l.set i x = l := by
    apply List.ext_getElem?
    intro j
    rw [List.getElem?_set]
    by_cases e : i = j
    · subst e; rw [if_pos rfl, if_pos (List.getElem?_eq_some_iff.1 h).1, h]
    · rw [if_neg e]
/-- The notes' list is another one. -/
theorem HpI.setNotes (h : HpI k tg H b lk S fb m cv nv fc fn xs ff) (hw : WF H) (hk : TagOk tg H) {v : AV} {l : List Int} {f : Option Nat} (hv : Own encI 1 H v l f) (hf : ∀ g, f = some g → tg g = some (k, .notes)) :
    ∃ H', H.st b 4 [v] = some H' ∧ H'.next = H.next ∧ Up k tg tg H H' ∧ HpI k tg H' b lk { S with notes := l } fb m cv v fc f xs ff := by
  obtain ⟨H', r1, r2, r3, r4, r5⟩ := h.setBox hw hk (off := 4) (v := v) (by omega) hv.1.form.1
  refine ⟨H', r1, r2, r3, by simpa using r4, h.tb, h.cs.keeps hw r5 fun g hg => h.ne (h.tc g hg) h.tb (by simp), h.tc, hv.keeps hw r5 fun g hg => h.ne (hf g hg) h.tb (by simp), hf, h.xc, fun i x hx => ?_, h.mp.keeps r5 (h.ne h.tm h.tb (by simp)), h.tm⟩
  obtain ⟨h1, h2⟩ := h.fs i x hx
  exact ⟨h1.keeps hw r5 fun g hg => h.ne (h2 g hg) h.tb (by simp), h2⟩
/-- A note more. -/
theorem HpI.pushNote (h : HpI k tg H b lk S fb m cv nv fc fn xs ff) (hw : WF H) (hk : TagOk tg H) (x : Int) (hl : S.notes.length < 2 ^ 40) :
    ∃ v' H1 H2 tg' f', wsem0 (.app 1 8) [nv, .slc (some (H.next, 0)) 1 1 (some 1)] (H.new [.int .i64 x]) = some (v', H1) ∧ v'.cell = true ∧ H1.st b 4 [v'] = some H2 ∧ Up k tg tg' H H2 ∧ HpI k tg' H2 b lk { S with notes := S.notes ++ [x] } fb m cv v' fc f' xs ff := by
  obtain ⟨v', H1, f', q1, q2, q3, q4, q5⟩ := push1 (bytes := 8) hw h.ns x (by omega) (by omega)
  have hn : H.next ≤ H1.next := q4.next
  -- the tags
  have ok1 : TagOk tg H1 := fun g hg => hk g (by omega)
  obtain ⟨tg', ht, htn, hold⟩ : ∃ tg' : Tags, Up k tg tg' H H1 ∧ (∀ g, f' = some g → tg' g = some (k, .notes)) ∧ ∀ g, g < H.next → tg' g = tg g := by
    have up1 : Up k tg tg H H1 := ⟨q2, ok1, q4.mono fun g e => ⟨_, h.tn g e⟩, fun _ => .inl rfl⟩
    cases f' with
    | none => exact ⟨tg, up1, (by intro g hg; cases hg), fun _ _ => rfl⟩
    | some g =>
      rcases q5 g rfl with e | e
      · exact ⟨tg, up1, (by intro g' hg; simp at hg; subst hg; exact h.tn _ e), fun _ _ => rfl⟩
      · have hlt := q3.2.lt q2
        exact ⟨upd tg g (some (k, .notes)), up1.put e hlt, (by intro g' hg; simp at hg; subst hg; exact upd_same _ _ _), fun g' hg' => upd_ne _ _ _ (by omega)⟩
  have h1 : HpI k tg' H1 b lk { S with notes := S.notes ++ [x] } fb m cv nv fc fn xs ff → True := fun _ => trivial
  have l1 := hw.row_fam h.box.row
  have l2 := h.mp.lt hw
  have hb1 : Box H1 b fb [.int .i32 lk, .int .u32 0, cv, .map (some m), nv] := h.box.keeps hw q4 fun e => h.ne (h.tn _ e) h.tb (by simp) rfl
  have tb' : tg' fb = some (k, .str) := by rw [hold _ l1]; exact h.tb
  obtain ⟨H2, r1, r2, r3, r4, r5⟩ := hb1.st q2 (off := 4) (vs := [v']) (by simp) (by simpa using q3.1.form.1)
  rw [splice_one (by simp)] at r3
  have up2 : Up k tg' tg' H1 H2 := Up.one ht.ok tb' r2 r5 r4
  have ne' : ∀ {g t}, tg' g = some (k, t) → t ≠ .str → g ≠ fb := by
    intro g t hg hne e; subst e; rw [tb'] at hg; simp at hg; exact hne hg.symm
  refine ⟨v', H1, H2, tg', f', by simpa using q1, q3.1.form.1, r1, ht.trans hw up2, by simpa using r3, tb', ?_, ?_, q3.keeps q2 r4 fun g hg => ne' (htn g hg) (by simp), htn, h.xc, ?_, ?_, ?_⟩
  · exact (h.cs.keeps hw q4 fun g hg e => h.ne (h.tn _ e) (h.tc g hg) (by simp) rfl).keeps q2 r4 fun g hg => h.ne (h.tc g hg) h.tb (by simp)
  · intro g hg; rw [hold g (by have := h.cs.2; rw [hg] at this; exact this.lt hw)]; exact h.tc g hg
  · intro i y hy
    obtain ⟨p1, p2⟩ := h.fs i y hy
    refine ⟨(p1.keeps hw q4 fun g hg e => h.ne (h.tn _ e) (p2 g hg) (by simp) rfl).keeps q2 r4 fun g hg => h.ne (p2 g hg) h.tb (by simp), fun g hg => ?_⟩
    rw [hold g (by have := p1.2; rw [hg] at this; exact this.lt hw)]; exact p2 g hg
  · exact (h.mp.keeps q4 fun e => h.ne (h.tn _ e) h.tm (by simp) rfl).keeps r4 (h.ne h.tm h.tb (by simp))
  · rw [hold _ l2]; exact h.tm
/-- The first note is gone. -/
theorem HpI.tailNotes (h : HpI k tg H b lk S fb m cv nv fc fn xs ff) (hw : WF H) (hk : TagOk tg H) {x : Int} {l : List Int} (hl : S.notes = x :: l) :
    psem (.ia 1) [nv, .int .i64 0] = some (elt nv 1 0) ∧ rsem (.ld 1 false) [elt nv 1 0] H = some (.int .i64 x) ∧
    ∃ v' H', psem (.sl 1 true false false) [nv, .int .i64 1] = some v' ∧ v'.cell = true ∧ H.st b 4 [v'] = some H' ∧ H'.next = H.next ∧ Up k tg tg H H' ∧ HpI k tg H' b lk { S with notes := l } fb m cv v' fc fn xs ff := by
  have hlen : S.notes.length = l.length + 1 := by rw [hl]; rfl
  refine ⟨h.ns.1.ia (by omega) (by omega), ?_, ?_⟩
  · have := h.ns.1.ld (i := 0) (by omega) (by omega)
    rw [this, hl]; rfl
  · obtain ⟨v', _, q2, _, q3, q4, _⟩ := h.ns.1.cut 1 S.notes.length (by omega) (by omega)
    have hv : Own encI 1 H v' l fn := by
      refine ⟨?_, q4 _ h.ns.2⟩
      rw [hl] at q3
      simpa using q3
    obtain ⟨H', r1, r2, r3, r4⟩ := h.setNotes hw hk hv h.tn
    exact ⟨v', H', q2 .i64 rfl, q3.form.1, r1, r2, r3, r4⟩
end
end Go.Am
