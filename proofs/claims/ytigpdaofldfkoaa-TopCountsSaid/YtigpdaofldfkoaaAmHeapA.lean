/- The heap of package heap on the small machine: its cells, fields, roots and notes, and what stores to them leave. -/
import Derived.Test.YtigpdaofldfkoaaAmTag
set_option linter.unusedVariables false
set_option linter.unusedSimpArgs false
namespace Go.Am
/-! ### Plain data -/
structure Fld where
  is : Bool
  weak : Bool
  to : Int
  deriving Inhabited, DecidableEq
structure Cel where
  fs : List Fld
  w : Bool
  t : Bool
  e : Bool
  n : Int
  deriving Inhabited, DecidableEq
structure Hp where
  cells : List Cel
  roots : List (Int × Int)
  notes : List Int
  deriving Inhabited, DecidableEq
def encF (x : Fld) : AV := .agg [.bool x.is, .bool x.weak, .int .i64 x.to]
def encC (x : AV × Cel) : AV := .agg [x.1, .bool x.2.w, .bool x.2.t, .bool x.2.e, .int .i64 x.2.n]
def encE (x : Int × Int) : AV × AV := (.int .i64 x.1, .int .i64 x.2)
/-! ### Tags: which structure a row belongs to, and as what -/
inductive Tag where
  | str
  | cells
  | notes
  | roots
  | fields (i : Nat)
  | other (i : Nat)
  deriving DecidableEq
abbrev Tags := Nat → Option (Nat × Tag)
def Tags.own (tg : Tags) (k g : Nat) : Prop := ∃ t, tg g = some (k, t)
/-- Nothing has a tag that is not there yet. -/
def TagOk (tg : Tags) (H : AHeap) : Prop := ∀ g, H.next ≤ g → tg g = none
/-- What is done to one structure. -/
structure Up (k : Nat) (tg tg' : Tags) (H H' : AHeap) : Prop where
  wf : WF H'
  ok : TagOk tg' H'
  keeps : Keeps (tg.own k) H H'
  tag : ∀ g, tg' g = tg g ∨ ((tg.own k g ∨ H.next ≤ g) ∧ ∀ j t, tg' g = some (j, t) → j = k)
theorem Keeps.drop {D : Nat → Prop} {H H' : AHeap} (hw : WF H) (h : Keeps (fun g => D g ∨ H.next ≤ g) H H') : Keeps D H H' :=
  ⟨h.next, fun b f cs q d => h.row b f cs q fun e => by rcases e with e | e; exact d e; have := hw.row_fam q; omega,
    fun f q d => h.fam f q fun e => by rcases e with e | e; exact d e; omega,
    fun m o q r d => h.obj m o q r fun e => by rcases e with e | e; exact d e; have := hw.obj_lt q; omega⟩
theorem Up.refl {k : Nat} {tg : Tags} {H : AHeap} (hw : WF H) (hk : TagOk tg H) : Up k tg tg H H := ⟨hw, hk, .refl, fun _ => .inl rfl⟩
theorem Up.trans {k : Nat} {tg tg1 tg2 : Tags} {H H1 H2 : AHeap} (hw : WF H) (h : Up k tg tg1 H H1) (h' : Up k tg1 tg2 H1 H2) : Up k tg tg2 H H2 := by
  have back : ∀ g, tg1.own k g → tg.own k g ∨ H.next ≤ g := by
    rintro g ⟨t, ht⟩
    rcases h.tag g with e | e
    · exact .inl ⟨t, by rw [← e]; exact ht⟩
    · exact e.1
  refine ⟨h'.wf, h'.ok, ?_, fun g => ?_⟩
  · exact Keeps.drop hw ((h.keeps.mono fun g hg => .inl hg).trans (h'.keeps.mono back))
  · rcases h'.tag g with e | ⟨e1, e2⟩
    · rw [e]; exact h.tag g
    · refine .inr ⟨?_, e2⟩
      rcases e1 with e1 | e1
      · exact back g e1
      · exact .inr (Nat.le_trans h.keeps.next e1)
/-- Other things' tags stay. -/
theorem Up.other {k j : Nat} {tg tg' : Tags} {H H' : AHeap} (h : Up k tg tg' H H') (hj : j ≠ k) {g : Nat} (hg : g < H.next) {t : Tag} (ht : tg g = some (j, t)) : tg' g = some (j, t) ∧ ¬tg.own k g := by
  have hn : ¬tg.own k g := by rintro ⟨t', h'⟩; rw [ht] at h'; simp at h'; exact hj h'.1
  refine ⟨?_, hn⟩
  rcases h.tag g with e | ⟨e, _⟩
  · rw [e]; exact ht
  · rcases e with e | e
    · exact absurd e hn
    · omega
/-- A write to one family. -/
theorem Up.one {k f : Nat} {tg : Tags} {H H' : AHeap} {t : Tag} (hk : TagOk tg H) (ht : tg f = some (k, t)) (hw : WF H') (hn : H'.next = H.next) (h : Keeps (fun g => g = f) H H') : Up k tg tg H H' :=
  ⟨hw, fun g hg => hk g (by omega), h.mono fun g e => by subst e; exact ⟨t, ht⟩, fun _ => .inl rfl⟩
theorem Up.oneO {k : Nat} {f : Option Nat} {tg : Tags} {H H' : AHeap} {t : Tag} (hk : TagOk tg H) (ht : ∀ g, f = some g → tg g = some (k, t)) (hw : WF H') (hn : H'.next = H.next) (h : Keeps (fun g => f = some g) H H') : Up k tg tg H H' :=
  ⟨hw, fun g hg => hk g (by omega), h.mono fun g e => ⟨t, ht g e⟩, fun _ => .inl rfl⟩
/-- New rows of nobody. -/
theorem Up.fr {k : Nat} {tg : Tags} {H H' : AHeap} (hw : WF H) (hk : TagOk tg H) (h : Fr H H') : Up k tg tg H H' :=
  ⟨h.wf, fun g hg => hk g (Nat.le_trans h.next hg), Keeps.drop hw (h.keeps.mono fun g e => .inr e), fun _ => .inl rfl⟩
/-- A tag for what is new. -/
theorem Up.put {k g : Nat} {tg : Tags} {H H' : AHeap} {t : Tag} (h : Up k tg tg H H') (hg : H.next ≤ g) (hg' : g < H'.next) : Up k tg (upd tg g (some (k, t))) H H' := by
  refine ⟨h.wf, fun i hi => ?_, h.keeps, fun i => ?_⟩
  · rw [upd_ne _ _ _ (by omega)]; exact h.ok i hi
  · by_cases e : i = g
    · subst e; exact .inr ⟨.inr hg, fun j t' ht => by rw [upd_same] at ht; simp at ht; exact ht.1.symm⟩
    · exact .inl (upd_ne _ _ _ e)
/-! ### The heap -/
structure HpI (k : Nat) (tg : Tags) (H : AHeap) (b : Nat) (lk : Int) (S : Hp) (fb m : Nat) (cv nv : AV) (fc fn : Option Nat) (xs : List (AV × Cel)) (ff : Nat → Option Nat) : Prop where
  box : Box H b fb [.int .i32 lk, .int .u32 0, cv, .map (some m), nv]
  tb : tg fb = some (k, .str)
  cs : Own encC 5 H cv xs fc
  tc : ∀ g, fc = some g → tg g = some (k, .cells)
  ns : Own encI 1 H nv S.notes fn
  tn : ∀ g, fn = some g → tg g = some (k, .notes)
  xc : xs.map (·.2) = S.cells
  fs : ∀ i x, xs[i]? = some x → Own encF 3 H x.1 x.2.fs (ff i) ∧ ∀ g, ff i = some g → tg g = some (k, .fields i)
  mp : Mp H m (S.roots.map encE)
  tm : tg m = some (k, .roots)
def HpR (k : Nat) (tg : Tags) (H : AHeap) (b : Nat) (lk : Int) (S : Hp) : Prop := ∃ fb m cv nv fc fn xs ff, HpI k tg H b lk S fb m cv nv fc fn xs ff
section
variable {k : Nat} {tg tg' : Tags} {H H' : AHeap} {b : Nat} {lk : Int} {S : Hp} {fb m : Nat} {cv nv : AV} {fc fn : Option Nat} {xs : List (AV × Cel)} {ff : Nat → Option Nat}
theorem HpI.keeps (h : HpI k tg H b lk S fb m cv nv fc fn xs ff) (hw : WF H) {D : Nat → Prop} (hk : Keeps D H H') (hD : ∀ g t, g < H.next → tg g = some (k, t) → ¬D g ∧ tg' g = some (k, t)) : HpI k tg' H' b lk S fb m cv nv fc fn xs ff := by
  have l1 := hw.row_fam h.box.row
  have l2 := h.mp.lt hw
  refine ⟨h.box.keeps hw hk (hD _ _ l1 h.tb).1, (hD _ _ l1 h.tb).2, h.cs.keeps hw hk fun g hg => ?_, fun g hg => ?_, h.ns.keeps hw hk fun g hg => ?_, fun g hg => ?_, h.xc, fun i x hx => ?_, h.mp.keeps hk (hD _ _ l2 h.tm).1, (hD _ _ l2 h.tm).2⟩
  · subst hg; exact (hD _ _ (h.cs.2.lt hw) (h.tc _ rfl)).1
  · subst hg; exact (hD _ _ (h.cs.2.lt hw) (h.tc _ rfl)).2
  · subst hg; exact (hD _ _ (h.ns.2.lt hw) (h.tn _ rfl)).1
  · subst hg; exact (hD _ _ (h.ns.2.lt hw) (h.tn _ rfl)).2
  · obtain ⟨h1, h2⟩ := h.fs i x hx
    refine ⟨h1.keeps hw hk fun g hg => ?_, fun g hg => ?_⟩
    · have hl := h1.2; rw [hg] at hl
      exact (hD _ _ (hl.lt hw) (h2 g hg)).1
    · have hl := h1.2; rw [hg] at hl
      exact (hD _ _ (hl.lt hw) (h2 g hg)).2
/-- Another structure's writes. -/
theorem HpR.other (h : HpR k tg H b lk S) (hw : WF H) {j : Nat} (hj : k ≠ j) (hu : Up j tg tg' H H') : HpR k tg' H' b lk S := by
  obtain ⟨fb, m, cv, nv, fc, fn, xs, ff, h⟩ := h
  exact ⟨fb, m, cv, nv, fc, fn, xs, ff, h.keeps hw hu.keeps fun g t hg ht => ⟨(hu.other hj hg ht).2, (hu.other hj hg ht).1⟩⟩
/-- New rows of nobody. -/
theorem HpR.fr (h : HpR k tg H b lk S) (hw : WF H) (hf : Fr H H') : HpR k tg H' b lk S := by
  obtain ⟨fb, m, cv, nv, fc, fn, xs, ff, h⟩ := h
  exact ⟨fb, m, cv, nv, fc, fn, xs, ff, h.keeps hw hf.keeps fun g t hg ht => ⟨by omega, ht⟩⟩
theorem HpI.len (h : HpI k tg H b lk S fb m cv nv fc fn xs ff) : xs.length = S.cells.length := by rw [← h.xc]; simp
/-! What is loaded of the structure. -/
theorem HpI.ld0 (h : HpI k tg H b lk S fb m cv nv fc fn xs ff) : H.ld b 0 1 = some [.int .i32 lk] := by simp [AHeap.ld, h.box.row]
theorem HpI.ldc (h : HpI k tg H b lk S fb m cv nv fc fn xs ff) : rsem (.ld 1 false) [.ptr (some (b, 2))] H = some cv := by simp [rsem, AHeap.ld, h.box.row]
theorem HpI.ldm (h : HpI k tg H b lk S fb m cv nv fc fn xs ff) : rsem (.ld 1 false) [.ptr (some (b, 3))] H = some (.map (some m)) := by simp [rsem, AHeap.ld, h.box.row]
theorem HpI.ldn (h : HpI k tg H b lk S fb m cv nv fc fn xs ff) : rsem (.ld 1 false) [.ptr (some (b, 4))] H = some nv := by simp [rsem, AHeap.ld, h.box.row]
/-- The structure's own cells written. -/
theorem HpI.setBox (h : HpI k tg H b lk S fb m cv nv fc fn xs ff) (hw : WF H) (hk : TagOk tg H) {off : Nat} {v : AV} (ho : off < 5) (hv : v.cell = true) :
    ∃ H', H.st b off [v] = some H' ∧ H'.next = H.next ∧ Up k tg tg H H' ∧ Box H' b fb (([.int .i32 lk, .int .u32 0, cv, .map (some m), nv] : List AV).set off v) ∧ Keeps (fun g => g = fb) H H' := by
  obtain ⟨H', r1, r2, r3, r4, r5⟩ := h.box.st hw (off := off) (vs := [v]) (by simp; omega) (by simpa using hv)
  rw [splice_one (by simpa using ho)] at r3
  exact ⟨H', r1, r5, Up.one hk h.tb r2 r5 r4, r3, r4⟩
theorem HpI.ne (h : HpI k tg H b lk S fb m cv nv fc fn xs ff) {g g' : Nat} {t t' : Tag} (h1 : tg g = some (k, t)) (h2 : tg g' = some (k, t')) (hne : t ≠ t') : g ≠ g' := by
  intro e; subst e; rw [h1] at h2; simp at h2; exact hne h2
/-- The lock. -/
theorem HpI.setLock (h : HpI k tg H b lk S fb m cv nv fc fn xs ff) (hw : WF H) (hk : TagOk tg H) (lk' : Int) :
    ∃ H', H.st b 0 [.int .i32 lk'] = some H' ∧ H'.next = H.next ∧ Up k tg tg H H' ∧ HpI k tg H' b lk' S fb m cv nv fc fn xs ff := by
  obtain ⟨H', r1, r2, r3, r4, r5⟩ := h.setBox hw hk (off := 0) (v := .int .i32 lk') (by omega) rfl
  refine ⟨H', r1, r2, r3, by simpa using r4, h.tb, h.cs.keeps hw r5 fun g hg => h.ne (h.tc g hg) h.tb (by simp), h.tc, h.ns.keeps hw r5 fun g hg => h.ne (h.tn g hg) h.tb (by simp), h.tn, h.xc, fun i x hx => ?_, h.mp.keeps r5 (h.ne h.tm h.tb (by simp)), h.tm⟩
  obtain ⟨h1, h2⟩ := h.fs i x hx
  exact ⟨h1.keeps hw r5 fun g hg => h.ne (h2 g hg) h.tb (by simp), h2⟩
end
end Go.Am
