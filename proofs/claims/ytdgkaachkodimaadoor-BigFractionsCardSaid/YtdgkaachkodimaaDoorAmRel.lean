/- How the small machine's values and heap stand to the model's values and world: the relation, and how it is kept when a row is made, written, or appended to. -/
import Derived.Test.YtdgkaachkodimaaDoorAmDefs
import Derived.ArgAppend
import Derived.Laws.IdiomCopy
import Derived.Below
set_option linter.unusedVariables false
set_option linter.unusedSimpArgs false
namespace Go.Am
open Go.RowKit
/-- Where a row lies: its block, its first cell, how many cells are its own from there on. -/
structure Ent where
  g : Nat
  o : Nat
  C : Nat
section
variable (G : Nat → Nat)
mutual
def VR (n : Nat) (E : Nat → Ent) : AV → Value → Prop
  | .undef, _ => True
  | .bool b, u => u = .bool b
  | .int k i, u => u = .int k i
  | .str s, u => u = .string ⟨⟨s⟩⟩
  | .ptr none, u => u = .pointer none
  | .ptr (some (b, off)), u => b < n ∧ u = .pointer (some ⟨(E b).g, (E b).o + off, none⟩)
  | .slc none sz len cap, u => len = 0 ∧ u = .slice none 0 0
  | .slc (some (b, off)) sz len cap, u => b < n ∧ ∃ a c, u = .slice (some a) len c ∧ len ≤ c ∧ (∀ k, cap = some k → c = k) ∧
      (0 < c → a = ⟨(E b).g, (E b).o + off, none⟩ ∧ off + c * sz ≤ (E b).C)
  | .map none, u => u = .map none
  | .map (some m), u => m < n ∧ u = .map (some (E m).g)
  | .fn f first caps, u => ∃ f' us ws, G f' = f ∧ u = .func (.func f') us ws ∧ VRs n E first us.toList ∧ VRs n E caps ws.toList
  | .nilFn, u => u = .nilFunc
  | .yld b, u => b < n ∧ u = .func (.yield (E b).g) #[] #[]
  | .agg cs, u => ∃ us, u = .agg us ∧ VRs n E cs us.toList
  | .tup cs, u => ∃ us, u = .tuple us ∧ VRs n E cs us.toList
  | .nilI, u => u = .nilIface
  | .iface t v, u => ∃ u', u = .iface t u' ∧ VR n E v u'
def VRs (n : Nat) (E : Nat → Ent) : List AV → List Value → Prop
  | [], us => us = []
  | a :: as, us => ∃ u r, us = u :: r ∧ VR n E a u ∧ VRs n E as r
end
def Ext (n : Nat) (E E' : Nat → Ent) : Prop := ∀ b, b < n → E' b = E b
theorem Ext.refl (n : Nat) (E : Nat → Ent) : Ext n E E := fun _ _ => rfl
theorem Ext.trans {n m : Nat} {E E' E'' : Nat → Ent} (h : Ext n E E') (k : Ext m E' E'') (hn : n ≤ m) : Ext n E E'' := fun b hb => (k b (by omega)).trans (h b hb)
variable {G}
mutual
theorem VR.mono {n m : Nat} {E E' : Nat → Ent} (hn : n ≤ m) (hE : Ext n E E') : ∀ {a : AV} {u : Value}, VR G n E a u → VR G m E' a u := by
  intro a u h
  cases a with
  | undef => trivial
  | bool b => exact h
  | int k i => exact h
  | str s => exact h
  | ptr p =>
    cases p with
    | none => exact h
    | some p =>
      obtain ⟨b, off⟩ := p
      obtain ⟨h1, h2⟩ := h
      refine ⟨by omega, ?_⟩
      rw [hE b h1]; exact h2
  | slc p sz len cap =>
    cases p with
    | none => exact h
    | some p =>
      obtain ⟨b, off⟩ := p
      obtain ⟨h1, h2⟩ := h
      refine ⟨by omega, ?_⟩
      rw [hE b h1]; exact h2
  | map m' =>
    cases m' with
    | none => exact h
    | some b =>
      obtain ⟨h1, h2⟩ := h
      refine ⟨by omega, ?_⟩
      rw [hE b h1]; exact h2
  | fn f first caps =>
    obtain ⟨f', us, ws, h1, h2, h3, h4⟩ := h
    exact ⟨f', us, ws, h1, h2, VRs.mono hn hE h3, VRs.mono hn hE h4⟩
  | nilFn => exact h
  | yld b => exact ⟨by have := h.1; omega, by rw [hE b h.1]; exact h.2⟩
  | agg cs =>
    obtain ⟨us, h1, h2⟩ := h
    exact ⟨us, h1, VRs.mono hn hE h2⟩
  | tup cs =>
    obtain ⟨us, h1, h2⟩ := h
    exact ⟨us, h1, VRs.mono hn hE h2⟩
  | nilI => exact h
  | iface t v =>
    obtain ⟨u', h1, h2⟩ := h
    exact ⟨u', h1, VR.mono hn hE h2⟩
theorem VRs.mono {n m : Nat} {E E' : Nat → Ent} (hn : n ≤ m) (hE : Ext n E E') : ∀ {as : List AV} {us : List Value}, VRs G n E as us → VRs G m E' as us := by
  intro as us h
  cases as with
  | nil => exact h
  | cons a as =>
    obtain ⟨u, r, h1, h2, h3⟩ := h
    exact ⟨u, r, h1, VR.mono hn hE h2, VRs.mono hn hE h3⟩
end
section lists
variable {n : Nat} {E : Nat → Ent}
theorem VRs.length : ∀ {as : List AV} {us : List Value}, VRs G n E as us → us.length = as.length
  | [], us, h => by rw [show us = [] from h]; rfl
  | a :: as, us, ⟨u, r, h1, _, h3⟩ => by rw [h1, List.length_cons, VRs.length h3, List.length_cons]
theorem VRs.get : ∀ {as : List AV} {us : List Value}, VRs G n E as us → ∀ (i : Nat) a, as[i]? = some a → ∃ u, us[i]? = some u ∧ VR G n E a u
  | [], us, h, i, a, hi => by simp at hi
  | b :: as, us, ⟨u, r, h1, h2, h3⟩, 0, a, hi => by
    simp at hi; subst hi; exact ⟨u, by rw [h1]; rfl, h2⟩
  | b :: as, us, ⟨u, r, h1, h2, h3⟩, i + 1, a, hi => by
    obtain ⟨u', e, hv⟩ := VRs.get h3 i a (by simpa using hi)
    exact ⟨u', by rw [h1]; simpa using e, hv⟩
theorem VRs.of_get : ∀ {as : List AV} {us : List Value}, us.length = as.length → (∀ (i : Nat) a, as[i]? = some a → ∃ u, us[i]? = some u ∧ VR G n E a u) → VRs G n E as us
  | [], us, hl, _ => List.eq_nil_of_length_eq_zero hl
  | a :: as, [], hl, _ => by simp at hl
  | a :: as, u :: us, hl, h => by
    obtain ⟨u', e, hv⟩ := h 0 a rfl
    simp at e; subst e
    exact ⟨u, us, rfl, hv, VRs.of_get (by simpa using hl) fun i b hb => by
      obtain ⟨u', e, hv⟩ := h (i + 1) b (by simpa using hb)
      exact ⟨u', by simpa using e, hv⟩⟩
theorem VRs.append : ∀ {as bs : List AV} {us ws : List Value}, VRs G n E as us → VRs G n E bs ws → VRs G n E (as ++ bs) (us ++ ws)
  | [], bs, us, ws, h, k => by rw [show us = [] from h]; exact k
  | a :: as, bs, us, ws, ⟨u, r, h1, h2, h3⟩, k => ⟨u, r ++ ws, by rw [h1]; rfl, h2, VRs.append h3 k⟩
theorem VRs.take : ∀ {as : List AV} {us : List Value}, VRs G n E as us → ∀ i, VRs G n E (as.take i) (us.take i)
  | [], us, h, i => by rw [show us = [] from h]; simp [VRs]
  | a :: as, us, h, 0 => by simp [VRs]
  | a :: as, us, ⟨u, r, h1, h2, h3⟩, i + 1 => ⟨u, r.take i, by rw [h1]; rfl, h2, VRs.take h3 i⟩
theorem VRs.drop : ∀ {as : List AV} {us : List Value}, VRs G n E as us → ∀ i, VRs G n E (as.drop i) (us.drop i)
  | [], us, h, i => by rw [show us = [] from h]; simp [VRs]
  | a :: as, us, h, 0 => h
  | a :: as, us, ⟨u, r, h1, h2, h3⟩, i + 1 => by rw [h1]; exact VRs.drop h3 i
theorem VRs.single {a : AV} {u : Value} (h : VR G n E a u) : VRs G n E [a] [u] := ⟨u, [], rfl, h, rfl⟩
/-- A value that fills one cell is one in the model, too. -/
theorem VR.oneCell {a : AV} {u : Value} (h : VR G n E a u) (hc : a.cell = true) : u.oneCell' = true ∧ u.cells = #[u] := by
  cases a with
  | undef => simp [AV.cell] at hc
  | agg cs => simp [AV.cell] at hc
  | tup cs => simp [AV.cell] at hc
  | bool b => rw [show u = _ from h]; exact ⟨rfl, rfl⟩
  | int k i => rw [show u = _ from h]; exact ⟨rfl, rfl⟩
  | str s => rw [show u = _ from h]; exact ⟨rfl, rfl⟩
  | ptr p =>
    cases p with
    | none => rw [show u = _ from h]; exact ⟨rfl, rfl⟩
    | some p => rw [h.2]; exact ⟨rfl, rfl⟩
  | slc p sz len cap =>
    cases p with
    | none => rw [h.2]; exact ⟨rfl, rfl⟩
    | some p => obtain ⟨_, a, c, e, _⟩ := h; rw [e]; exact ⟨rfl, rfl⟩
  | map m =>
    cases m with
    | none => rw [show u = _ from h]; exact ⟨rfl, rfl⟩
    | some p => rw [h.2]; exact ⟨rfl, rfl⟩
  | fn f a b => obtain ⟨_, _, _, _, e, _⟩ := h; rw [e]; exact ⟨rfl, rfl⟩
  | nilFn => rw [show u = _ from h]; exact ⟨rfl, rfl⟩
  | yld b => rw [h.2]; exact ⟨rfl, rfl⟩
  | nilI => rw [show u = _ from h]; exact ⟨rfl, rfl⟩
  | iface t v => obtain ⟨_, e, _⟩ := h; rw [e]; exact ⟨rfl, rfl⟩
theorem VRs.oneCell : ∀ {as : List AV} {us : List Value}, VRs G n E as us → as.all AV.cell = true → ∀ u ∈ us, u.oneCell' = true
  | [], us, h, _, u, hu => by rw [show us = [] from h] at hu; simp at hu
  | a :: as, us, ⟨w, r, h1, h2, h3⟩, hc, u, hu => by
    rw [h1] at hu
    simp at hc
    rcases List.mem_cons.1 hu with rfl | hu
    · exact (h2.oneCell hc.1).1
    · exact VRs.oneCell h3 (by simpa using hc.2) u hu
/-- The cells of a value, of which nothing is undefined. -/
theorem VR.cells {a : AV} {u : Value} (h : VR G n E a u) (hc : a.cells.all AV.cell = true) : VRs G n E a.cells u.cells.toList := by
  cases a with
  | agg cs => obtain ⟨us, e, hs⟩ := h; rw [e]; exact hs
  | undef => simp [AV.cells, AV.cell] at hc
  | tup cs => simp [AV.cells, AV.cell] at hc
  | _ =>
    have h1 := (h.oneCell (by simp [AV.cell])).2
    rw [h1]
    exact VRs.single h
end lists
/-! ### The heap -/
/-- Blocks that stay, with what they hold. -/
abbrev Prot := Nat → Option Obj
/-- The streams are as they were, no block has gone, and what is to stay has stayed. -/
structure Keep (S : Prot) (w0 w : World) : Prop where
  os : w.os = w0.os
  tape : w.tape = w0.tape
  output : w.output = w0.output
  size : w0.heap.size ≤ w.heap.size
  block : ∀ g o, S g = some o → w.heap[g]? = some o
/-- More stays. -/
def Sub (S S' : Prot) : Prop := ∀ g o, S g = some o → S' g = some o
theorem Sub.refl (S : Prot) : Sub S S := fun _ _ h => h
theorem Sub.trans {S S' S'' : Prot} (h : Sub S S') (k : Sub S' S'') : Sub S S'' := fun g o hg => k g o (h g o hg)
theorem Keep.sub {S S' : Prot} {a w : World} (h : Keep S' a w) (k : Sub S S') : Keep S a w := ⟨h.os, h.tape, h.output, h.size, fun g o hg => h.block g o (k g o hg)⟩
/-- All that a world has. -/
def prot (w : World) : Prot := fun g => w.heap[g]?
theorem prot_lt {w : World} {g : Nat} : prot w g ≠ none ↔ g < w.heap.size := by
  unfold prot
  constructor
  · intro h
    cases e : w.heap[g]? with
    | none => exact absurd e h
    | some o => exact (Array.getElem?_eq_some_iff.1 e).1
  · intro h e
    rw [Array.getElem?_eq_getElem h] at e; cases e
theorem Keep.self (w : World) : Keep (prot w) w w := ⟨rfl, rfl, rfl, Nat.le_refl _, fun _ _ h => h⟩
theorem Keep.to_below {w w' : World} (h : Keep (prot w) w w') : Below w.heap.size w w' :=
  ⟨h.os, h.tape, h.output, h.size, fun k hk => by rw [h.block k w.heap[k] (Array.getElem?_eq_getElem hk), Array.getElem?_eq_getElem hk]⟩
theorem Keep.drew {S : Prot} {a w : World} (h : Keep S a w) : Keep S a w.drew := ⟨h.os, h.tape, h.output, h.size, h.block⟩
theorem Keep.lt {S : Prot} {a w : World} (h : Keep S a w) {g : Nat} (hg : S g ≠ none) : g < w.heap.size := by
  cases e : S g with
  | none => exact absurd e hg
  | some o => exact (Array.getElem?_eq_some_iff.1 (h.block g o e)).1
theorem Keep.alloc {S : Prot} {a w : World} (h : Keep S a w) (x : Obj) : Keep S a (w.alloc x) :=
  ⟨h.os, h.tape, h.output, Nat.le_trans h.size (by simp), fun g o hg => by rw [Below.heap_alloc _ _ _ (h.lt (by rw [hg]; simp))]; exact h.block g o hg⟩
theorem Keep.setCell {S : Prot} {a w : World} (h : Keep S a w) {p : Addr} (hp : S p.block = none) (u : Value) : Keep S a (w.setCell p u) :=
  ⟨h.os, h.tape, h.output, by simpa [World.setCell] using h.size, fun g o hg => by
    rw [Below.heap_setCell _ _ _ _ (by intro e; subst e; rw [hp] at hg; cases hg)]; exact h.block g o hg⟩
theorem Keep.below {S : Prot} {a w w' : World} (h : Keep S a w) (k : Below w.heap.size w w') : Keep S a w' :=
  ⟨k.os.trans h.os, k.tape.trans h.tape, k.output.trans h.output, Nat.le_trans h.size k.size, fun g o hg => by rw [k.block g (h.lt (by rw [hg]; simp))]; exact h.block g o hg⟩
/-- What is known of a row's cells. -/
structure RowR (G : Nat → Nat) (B : Prot) (z n : Nat) (E : Nat → Ent) (w : World) (b : Nat) (own : Bool) (cs : List AV) : Prop where
  lt : b < n
  cell : ∀ (i : Nat) v, cs[i]? = some v → ∃ u, w.cell? ⟨(E b).g, (E b).o + i, none⟩ = some u ∧ VR G n E v u
  ro : own = false → B (E b).g ≠ none ∧ (E b).g < z
  own : own = true → B (E b).g = none ∧ cs.length ≤ (E b).C ∧ ∀ i, i < (E b).C → (w.cell? ⟨(E b).g, (E b).o + i, none⟩).isSome = true ∧ w.frozen? ⟨(E b).g, (E b).o + i, none⟩ = false
/-- The entries of a map. -/
def EntsR (G : Nat → Nat) (n : Nat) (E : Nat → Ent) : List (AV × AV) → List MapEntry → Prop
  | [], es => es = []
  | (k, v) :: r, es => ∃ e es', es = e :: es' ∧ VR G n E k e.key ∧ VR G n E v e.val ∧ EntsR G n E r es'
theorem EntsR.mono {n m : Nat} {E E' : Nat → Ent} (hn : n ≤ m) (hE : Ext n E E') : ∀ {as : List (AV × AV)} {es : List MapEntry}, EntsR G n E as es → EntsR G m E' as es
  | [], es, h => h
  | (k, v) :: r, es, ⟨e, es', h1, h2, h3, h4⟩ => ⟨e, es', h1, VR.mono hn hE h2, VR.mono hn hE h3, EntsR.mono hn hE h4⟩
/-- A map, or an iterator, and what it is in the model. -/
def ObjR (G : Nat → Nat) (n : Nat) (E : Nat → Ent) (off : Nat) : AObj → Obj → Prop
  | .map _ es st, x => ∃ es' clock, x = .map es' clock ∧ EntsR G n E es es'.toList ∧ st = (es'.toList.map (·.born), clock)
  | .sit s pos, x => off = 0 ∧ x = .stringIter ⟨⟨s⟩⟩ pos
  | .mit m since seen last, x => off = 0 ∧ (∀ b, m = some b → b < n) ∧ x = .mapIter (m.map fun b => (E b).g) since seen.toArray last
  | .dq t, x => off = 0 ∧ x = .deferred (if t then some [] else none)
  | .row .., _ => False
theorem ObjR.mono {n m : Nat} {E E' : Nat → Ent} (hn : n ≤ m) (hE : Ext n E E') {off : Nat} {o : AObj} {x : Obj} (h : ObjR G n E off o x) : ObjR G m E' off o x := by
  cases o with
  | row f cs => exact h.elim
  | map own es st => obtain ⟨es', c, h1, h2, h3⟩ := h; exact ⟨es', c, h1, h2.mono hn hE, h3⟩
  | sit s pos => exact h
  | dq t => exact h
  | mit i since seen last =>
    obtain ⟨h0, h1, h2⟩ := h
    refine ⟨h0, fun b hb => by have := h1 b hb; omega, ?_⟩
    rw [h2]
    cases i with
    | none => rfl
    | some b => simp only [Option.map_some]; rw [hE b (h1 b rfl)]
/-- It has no cells. -/
def NoCells (x : Obj) : Prop := ∀ c e fr, x ≠ .cells c e fr
theorem ObjR.noCells {n : Nat} {E : Nat → Ent} {off : Nat} {o : AObj} {x : Obj} (h : ObjR G n E off o x) : NoCells x := by
  intro c e fr
  cases o with
  | row f cs => exact h.elim
  | map own es st => obtain ⟨es', c, h1, h2, h3⟩ := h; rw [h1]; simp
  | sit s pos => rw [h.2]; simp
  | dq t => rw [h.2]; simp
  | mit i since seen last => rw [h.2.2]; simp
/-- What stands fast: a world that was, and where the first rows lie. -/
structure Base where
  w : World
  n : Nat := 0
  E : Nat → Ent := fun _ => ⟨0, 0, 0⟩
instance : Coe Base World := ⟨Base.w⟩
instance : Coe World Base := ⟨fun w => { w := w }⟩
abbrev Base.heap (w0 : Base) := w0.w.heap
structure HRel (G : Nat → Nat) (B : Prot) (w0 : Base) (E : Nat → Ent) (H : AHeap) (w : World) : Prop where
  below : Keep B w0 w
  size : ∀ g, B g ≠ none → g < w.heap.size
  row : ∀ b f cs, H.row b = some (f, cs) → RowR G B w0.heap.size H.next E w b (H.fam f).isSome cs
  glt : ∀ b, b < H.next → (E b).g < w.heap.size
  sep : ∀ b f cs c f' cs', H.row b = some (f, cs) → H.row c = some (f', cs') → (H.fam f).isSome = true → (H.fam f').isSome = true → f ≠ f' → (E b).g ≠ (E c).g
  fresh : ∀ b, H.next ≤ b → H.blk b = none
  famlt : ∀ b f cs, H.blk b = some (.row f cs) → f < H.next
  obj : ∀ m o, H.blk m = some o → o.isRow = false → m < H.next ∧ (o.own = true → B (E m).g = none) ∧ (o.own = false → B (E m).g ≠ none ∧ (E m).g < w0.heap.size) ∧
    ∃ x, w.heap[(E m).g]? = some x ∧ ObjR G H.next E (E m).o o x
  sepm : ∀ m o m' o', H.blk m = some o → H.blk m' = some o' → o.isRow = false → o'.isRow = false → o.own = true → o'.own = true → m ≠ m' → (E m).g ≠ (E m').g
  fix : w0.n ≤ H.next ∧ Ext w0.n w0.E E
  typ : ∀ b t, H.typ b = some t → b < H.next ∧ (E b).o = 0 ∧ ∃ cs fz, w.heap[(E b).g]? = some (.cells cs t fz)
/-- Cells stay cells of their type. -/
def TK (w w' : World) : Prop := ∀ (k : Nat) cs t fz, w.heap[k]? = some (.cells cs t fz) → ∃ cs' fz', w'.heap[k]? = some (.cells cs' t fz')
theorem TK.refl (w : World) : TK w w := fun _ cs t fz h => ⟨cs, fz, h⟩
theorem TK.trans {a b c : World} (h : TK a b) (k : TK b c) : TK a c := fun i cs t fz hi => by
  obtain ⟨cs', fz', h1⟩ := h i cs t fz hi
  exact k i cs' t fz' h1
theorem TK.alloc (w : World) (x : Obj) : TK w (w.alloc x) := fun k cs t fz h => ⟨cs, fz, by rw [Below.heap_alloc _ _ _ (Array.getElem?_eq_some_iff.1 h).1]; exact h⟩
theorem TK.below {w w' : World} (h : Below w.heap.size w w') : TK w w' := fun k cs t fz hk => ⟨cs, fz, by rw [h.block k (Array.getElem?_eq_some_iff.1 hk).1]; exact hk⟩
theorem TK.setCell (w : World) (p : Addr) (u : Value) : TK w (w.setCell p u) := fun k cs t fz h => by
  by_cases e : k = p.block
  · subst e
    obtain ⟨hlt, hk⟩ := Array.getElem?_eq_some_iff.1 h
    show ∃ cs' fz', (w.heap.modify p.block _)[p.block]? = some (.cells cs' t fz')
    rw [Array.getElem?_eq_getElem (by rw [Array.size_modify]; exact hlt), Array.getElem_modify_self, hk]
    exact ⟨_, _, rfl⟩
  · exact ⟨cs, fz, by rw [Below.heap_setCell _ _ _ _ e]; exact h⟩
theorem TK.other {w w' : World} {g : Nat} (hg : ∀ cs t fz, w.heap[g]? ≠ some (.cells cs t fz)) (h : ∀ k, k ≠ g → w'.heap[k]? = w.heap[k]?) : TK w w' := fun k cs t fz hk => by
  by_cases e : k = g
  · subst e; exact absurd hk (hg _ _ _)
  · exact ⟨cs, fz, by rw [h k e]; exact hk⟩
theorem HRel.typ0 {G : Nat → Nat} {B : Prot} {w0 : Base} {w w' : World} {E E' : Nat → Ent} {H : AHeap} (h : HRel G B w0 E H w) (hE : Ext H.next E E') (tk : TK w w') : ∀ b t, H.typ b = some t → b < H.next ∧ (E' b).o = 0 ∧ ∃ cs fz, w'.heap[(E' b).g]? = some (.cells cs t fz) := by
  intro b t hb
  obtain ⟨k1, k2, cs, fz, k3⟩ := h.typ b t hb
  rw [hE b k1]
  exact ⟨k1, k2, tk _ _ _ _ k3⟩
theorem HRel.typ1 {G : Nat → Nat} {B : Prot} {w0 : Base} {w w' : World} {E E' : Nat → Ent} {H : AHeap} (h : HRel G B w0 E H w) (hE : Ext H.next E E') (tk : TK w w') : ∀ b t, H.typ b = some t → b < H.next + 1 ∧ (E' b).o = 0 ∧ ∃ cs fz, w'.heap[(E' b).g]? = some (.cells cs t fz) := by
  intro b t hb
  obtain ⟨k1, k2⟩ := h.typ0 hE tk b t hb
  exact ⟨Nat.lt_succ_of_lt k1, k2⟩
theorem HRel.map {G : Nat → Nat} {B : Prot} {w0 : Base} {w : World} {E : Nat → Ent} {H : AHeap} (h : HRel G B w0 E H w) (m : Nat) (own : Bool) (es : List (AV × AV)) (st : List Nat × Nat) (hm : H.blk m = some (.map own es st)) :
    m < H.next ∧ (own = true → B (E m).g = none) ∧ (own = false → B (E m).g ≠ none ∧ (E m).g < w0.heap.size) ∧ ∃ es' clock, w.heap[(E m).g]? = some (.map es' clock) ∧ EntsR G H.next E es es'.toList ∧ st = (es'.toList.map (·.born), clock) := by
  obtain ⟨h1, h2, h3, x, h4, es', c, rfl, h5, h6⟩ := h.obj m _ hm rfl
  exact ⟨h1, h2, h3, es', c, h4, h5, h6⟩
theorem row_blk {H : AHeap} {b f : Nat} {cs : List AV} (h : H.row b = some (f, cs)) : H.blk b = some (.row f cs) := by
  unfold AHeap.row at h
  cases hb : H.blk b with
  | none => simp [hb] at h
  | some o =>
    cases o with
    | map own es st => simp [hb] at h
    | sit s p => simp [hb] at h
    | dq t => simp [hb] at h
    | mit a b c d => simp [hb] at h
    | row f' cs' =>
      simp only [hb] at h
      cases hf : H.fam f' with
      | none => simp only [hf] at h; simp at h; simp [h]
      | some p =>
        obtain ⟨c, a⟩ := p
        simp only [hf] at h
        split at h
        · simp at h; simp [h]
        · simp at h
theorem RowR.mono {B : Prot} {z n m : Nat} {E E' : Nat → Ent} {w w' : World} {b : Nat} {own : Bool} {cs : List AV} (h : RowR G B z n E w b own cs)
    (hn : n ≤ m) (hE : Ext n E E') (hw : ∀ i, w'.cell? ⟨(E b).g, i, none⟩ = w.cell? ⟨(E b).g, i, none⟩ ∧ w'.frozen? ⟨(E b).g, i, none⟩ = w.frozen? ⟨(E b).g, i, none⟩) : RowR G B z m E' w' b own cs := by
  have e := hE b h.lt
  refine ⟨by have := h.lt; omega, ?_, by rw [e]; exact h.ro, ?_⟩
  · intro i v hi
    obtain ⟨u, h1, h2⟩ := h.cell i v hi
    exact ⟨u, by rw [e, (hw _).1]; exact h1, h2.mono hn hE⟩
  · intro ho
    obtain ⟨h1, h2, h3⟩ := h.own ho
    rw [e]
    refine ⟨h1, h2, fun i hi => ?_⟩
    rw [(hw _).1, (hw _).2]
    exact h3 i hi
/-- The world goes on by draws alone. -/
theorem HRel.drew {B : Prot} {w0 : Base} {w : World} {E : Nat → Ent} {H : AHeap} (h : HRel G B w0 E H w) : HRel G B w0 E H w.drew :=
  ⟨h.below.drew, h.size, fun b f cs hb => (h.row b f cs hb).mono (Nat.le_refl _) (Ext.refl _ _) (fun _ => ⟨rfl, rfl⟩), h.glt, h.sep, h.fresh, h.famlt, h.obj, h.sepm, h.fix, h.typ⟩
theorem HRel.free {B : Prot} {w0 : Base} {w : World} {E : Nat → Ent} {H : AHeap} (h : HRel G B w0 E H w) : B w.heap.size = none := by
  apply Classical.byContradiction; intro hne; exact absurd (h.size _ hne) (Nat.lt_irrefl _)
theorem HRel.blk_lt {B : Prot} {w0 : Base} {w : World} {E : Nat → Ent} {H : AHeap} (h : HRel G B w0 E H w) {b : Nat} {o : AObj} (hb : H.blk b = some o) : b < H.next := by
  rcases Nat.lt_or_ge b H.next with hl | hl
  · exact hl
  · rw [h.fresh b hl] at hb; cases hb
end
end Go.Am
