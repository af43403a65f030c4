/- From a row's arguments to the small machine: what is read of them is laid as rows that are only read; and what a call of the small machine gives goes back into the row's own words. -/
import Derived.Test.YtdgkaachkodimaaDoorAmRun
import Derived.Test.YtdgkaachkodimaaDoorAmLibs
import Derived.ProofKit
import Derived.OpenShut
import Derived.Carry
import Derived.Deep.Slices
set_option linter.unusedVariables false
set_option linter.unusedSimpArgs false
namespace Go.Am
open Go.RowKit Go.ChangeShapes
/-! ### Shapes of what comes in -/
inductive Sh where
  | int (k : IntKind)
  | bool
  | str
  | slice (e : Sh)
  | nilA
  | consA (s r : Sh)
def Sh.size : Sh → Nat
  | .nilA => 0
  | .consA s r => s.size + r.size
  | _ => 1
/-- Cells of a shape. -/
def Good (H : AHeap) : Sh → List AV → Prop
  | .int k, cs => ∃ n, cs = [.int k n] ∧ (Lit.int k n).wf = true
  | .bool, cs => ∃ b, cs = [.bool b]
  | .str, cs => ∃ s : List UInt8, cs = [.str s] ∧ s.length ≤ maxLen
  | .slice e, cs => ∃ a l, cs = [a] ∧ l.length ≤ maxLen ∧ Sl AV.agg e.size H a l ∧ ∀ x ∈ l, Good H e x
  | .nilA, cs => cs = []
  | .consA s r, cs => ∃ c d, cs = c ++ d ∧ Good H s c ∧ Good H r d
theorem Good.len {H : AHeap} : ∀ {s : Sh} {cs : List AV}, Good H s cs → cs.length = s.size
  | .int k, cs, ⟨n, e, _⟩ => by rw [e]; rfl
  | .bool, cs, ⟨n, e⟩ => by rw [e]; rfl
  | .str, cs, ⟨n, e, _⟩ => by rw [e]; rfl
  | .slice _, cs, ⟨a, l, e, _⟩ => by rw [e]; rfl
  | .nilA, cs, h => by rw [show cs = [] from h]; rfl
  | .consA s r, cs, ⟨c, d, e, h1, h2⟩ => by rw [e, List.length_append, h1.len, h2.len]; rfl
theorem Good.fr {H H' : AHeap} (hw : WF H) (k : Fr H H') : ∀ {s : Sh} {cs : List AV}, Good H s cs → Good H' s cs
  | .int _, _, h => h
  | .bool, _, h => h
  | .str, _, h => h
  | .slice _, _, ⟨a, l, e, h1, h2, h3⟩ => ⟨a, l, e, h1, h2.fr hw k, fun x hx => (h3 x hx).fr hw k⟩
  | .nilA, _, h => h
  | .consA _ _, _, ⟨c, d, e, h1, h2⟩ => ⟨c, d, e, h1.fr hw k, h2.fr hw k⟩
def shFields (sh : TypeId → Option Sh) (P : Program) : Nat → List Field → Option Sh
  | _, [] => some .nilA
  | n, f :: fs =>
    match sh f.type with
    | some s => if f.offset = n ∧ P.cellsOf f.type = s.size then (match shFields sh P (n + s.size) fs with | some r => some (.consA s r) | none => none) else none
    | none => none
def shRep (s : Sh) : Nat → Sh
  | 0 => .nilA
  | n + 1 => .consA s (shRep s n)
def shOf (P : Program) : Nat → TypeId → Option Sh
  | 0, _ => none
  | n + 1, t =>
    match P.underlying t with
    | some (.int k) => some (.int k)
    | some .bool => some .bool
    | some .string => some .str
    | some (.slice e) => match shOf P n e with | some s => if P.cellsOf e = s.size ∧ s.size ≠ 0 then some (.slice s) else none | none => none
    | some (.struct fs) => match shFields (shOf P n) P 0 fs.toList with | some s => if P.cellsOf t = s.size then some s else none | none => none
    | some (.array m e) => match shOf P n e with | some s => if P.cellsOf e = s.size ∧ P.cellsOf t = m * s.size then some (shRep s m) else none | none => none
    | _ => none
/-! ### Rows that are only read -/
def AHeap.newRo (H : AHeap) (cs : List AV) : AHeap := { next := H.next + 1, blk := upd H.blk H.next (some (.row H.next cs)), fam := upd H.fam H.next none, typ := H.typ }
section
variable {P : Program} {G : Nat → Nat} {W : World}
theorem HRel.wf {B : Prot} {w0 : Base} {w : World} {E : Nat → Ent} {H : AHeap} (h : HRel G B w0 E H w) : WF H := ⟨h.fresh, h.famlt⟩
theorem row_newRo {H : AHeap} {cs : List AV} : (H.newRo cs).row H.next = some (H.next, cs) := by simp [AHeap.row, AHeap.newRo]
theorem WF.fr_newRo {H : AHeap} (hw : WF H) {cs : List AV} : Fr H (H.newRo cs) := by
  refine ⟨⟨?_, ?_⟩, ⟨Nat.le_succ _, ?_, ?_, ?_, fun _ _ => rfl⟩⟩
  · intro b hb
    show upd H.blk H.next _ b = none
    have hb : H.next + 1 ≤ b := hb
    rw [upd_ne _ _ _ (by omega)]
    exact hw.blk b (by omega)
  · intro b f ds h
    show f < H.next + 1
    have h : upd H.blk H.next (some (.row H.next cs)) b = _ := h
    by_cases hb : b = H.next
    · subst hb; rw [upd_same] at h; simp at h; omega
    · rw [upd_ne _ _ _ hb] at h; have := hw.fam b f ds h; omega
  · intro b f ds h _
    have h1 := hw.row_lt h
    have h2 := hw.row_fam h
    exact row_of h (upd_ne _ _ _ (by omega)) (upd_ne _ _ _ (by omega))
  · intro f hf _
    show (upd H.fam H.next _ f).isSome = _
    rw [upd_ne _ _ _ (by omega)]
  · intro m o h _ _
    show upd H.blk H.next _ m = _
    have : m ≠ H.next := by
      rintro rfl
      rw [hw.blk _ (Nat.le_refl _)] at h; cases h
    rw [upd_ne _ _ _ this]; exact h
theorem HRel.newRo {E : Nat → Ent} {H : AHeap} (h : HRel G (prot W) W E H W) {cs : List AV} {ent : Ent} (hg : ent.g < W.heap.size)
    (hc : ∀ (i : Nat) v, cs[i]? = some v → ∃ u, W.cell? ⟨ent.g, ent.o + i, none⟩ = some u ∧ VR G H.next E v u) :
    HRel G (prot W) W (upd E H.next ent) (H.newRo cs) W := by
  have hx : Ext H.next E (upd E H.next ent) := fun b hb => upd_ne _ _ _ (by omega)
  have old : ∀ b f ds, (H.newRo cs).row b = some (f, ds) → (b = H.next ∧ f = H.next ∧ ds = cs) ∨ (b ≠ H.next ∧ f ≠ H.next ∧ H.row b = some (f, ds)) := by
    intro b f ds hr
    have hb := AHeap.row_blk hr
    have hb : upd H.blk H.next _ b = _ := hb
    by_cases e : b = H.next
    · subst e; rw [upd_same] at hb; simp at hb; exact .inl ⟨rfl, hb.1.symm, hb.2.symm⟩
    · rw [upd_ne _ _ _ e] at hb
      have hf := h.famlt b f ds hb
      exact .inr ⟨e, by omega, row_of hr (by show H.blk b = upd H.blk _ _ b; rw [upd_ne _ _ _ e]) (by show H.fam f = upd H.fam _ _ f; rw [upd_ne _ _ _ (by omega)])⟩
  have famnew : ((H.newRo cs).fam H.next).isSome = false := by show (upd H.fam H.next none H.next).isSome = false; rw [upd_same]; rfl
  have famold : ∀ f, f ≠ H.next → (H.newRo cs).fam f = H.fam f := fun f hf => upd_ne _ _ _ hf
  have ownold : ∀ b f ds, (H.newRo cs).row b = some (f, ds) → ((H.newRo cs).fam f).isSome = true → b ≠ H.next ∧ H.row b = some (f, ds) ∧ (H.fam f).isSome = true := by
    intro b f ds hr ho
    rcases old b f ds hr with ⟨_, e, _⟩ | ⟨e1, e2, e3⟩
    · subst e; rw [famnew] at ho; cases ho
    · rw [famold f e2] at ho; exact ⟨e1, e3, ho⟩
  constructor
  · exact h.below
  · exact h.size
  · intro b f ds hr
    rcases old b f ds hr with ⟨rfl, rfl, rfl⟩ | ⟨e1, e2, e3⟩
    · rw [famnew]
      refine ⟨Nat.lt_succ_self _, ?_, fun _ => by rw [upd_same]; exact ⟨prot_lt.2 hg, hg⟩, fun e => by cases e⟩
      intro i v hi
      rw [upd_same]
      obtain ⟨u, q1, q2⟩ := hc i v hi
      exact ⟨u, q1, q2.mono (Nat.le_succ _) hx⟩
    · rw [famold f e2]
      exact (h.row b f ds e3).mono (Nat.le_succ _) hx fun _ => ⟨rfl, rfl⟩
  · intro b hb
    have hb : b < H.next + 1 := hb
    by_cases e : b = H.next
    · subst e; rw [upd_same]; exact hg
    · rw [upd_ne _ _ _ e]; exact h.glt b (by omega)
  · intro b f ds c f' ds' h1 h2 h3 h4 h5
    obtain ⟨q1, q2, q3⟩ := ownold b f ds h1 h3
    obtain ⟨r1, r2, r3⟩ := ownold c f' ds' h2 h4
    rw [upd_ne _ _ _ q1, upd_ne _ _ _ r1]
    exact h.sep b f ds c f' ds' q2 r2 q3 r3 h5
  · intro b hb
    exact h.wf.fr_newRo.wf.blk b hb
  · exact h.wf.fr_newRo.wf.fam
  · intro m o hm ho
    have hm : upd H.blk H.next _ m = _ := hm
    by_cases e : m = H.next
    · subst e; rw [upd_same] at hm; simp at hm; subst hm; cases ho
    · rw [upd_ne _ _ _ e] at hm
      obtain ⟨q1, q2, q3, x, q4, q5⟩ := h.obj m o hm ho
      rw [upd_ne _ _ _ e]
      exact ⟨Nat.lt_succ_of_lt q1, q2, q3, x, q4, q5.mono (Nat.le_succ _) hx⟩
  · intro m o m' o' h1 h2 ho ho' w1 w2 hne
    have h1 : upd H.blk H.next _ m = _ := h1
    have h2 : upd H.blk H.next _ m' = _ := h2
    by_cases e : m = H.next
    · subst e; rw [upd_same] at h1; simp at h1; subst h1; cases ho
    · by_cases e' : m' = H.next
      · subst e'; rw [upd_same] at h2; simp at h2; subst h2; cases ho'
      · rw [upd_ne _ _ _ e] at h1 ⊢
        rw [upd_ne _ _ _ e'] at h2 ⊢
        exact h.sepm m o m' o' h1 h2 ho ho' w1 w2 hne
  · exact ⟨Nat.zero_le _, fun b hb => absurd hb (Nat.not_lt_zero _)⟩
  · exact h.typ1 hx (TK.refl _)
/-- No heap yet. -/
def AHeap.empty : AHeap := { next := 0, blk := fun _ => none, fam := fun _ => none, typ := fun _ => none }
theorem HRel.empty : HRel G (prot W) W (fun _ => ⟨0, 0, 0⟩) AHeap.empty W := by
  have hr : ∀ b f cs, AHeap.empty.row b ≠ some (f, cs) := by intro b f cs h; simp [AHeap.row, AHeap.empty] at h
  exact ⟨.self _, fun g hg => prot_lt.1 hg, fun b f cs h => absurd h (hr _ _ _), fun b h => absurd h (Nat.not_lt_zero _), fun b f cs _ _ _ h => absurd h (hr _ _ _),
    fun _ _ => rfl, fun b f cs h => by simp [AHeap.empty] at h, fun m o h => by simp [AHeap.empty] at h, fun m o _ _ h => by simp [AHeap.empty] at h, ⟨Nat.le_refl _, fun b hb => absurd hb (Nat.not_lt_zero _)⟩, fun b t h => by simp [AHeap.empty] at h⟩
/-! ### What comes in is laid -/
def Imp (P : Program) (G : Nat → Nat) (W : World) (E : Nat → Ent) (H : AHeap) (us : List Value) (s : Sh) : Prop :=
  ∃ E' H' as, Ext H.next E E' ∧ Fr H H' ∧ HRel G (prot W) W E' H' W ∧ VRs G H'.next E' as us ∧ Good H' s as
theorem Imp.cons {E : Nat → Ent} {H : AHeap} {u v : List Value} {s r : Sh} (h1 : HRel G (prot W) W E H W → Imp P G W E H u s) (hr : HRel G (prot W) W E H W)
    (h2 : ∀ E H, HRel G (prot W) W E H W → Imp P G W E H v r) : Imp P G W E H (u ++ v) (.consA s r) := by
  obtain ⟨E1, H1, as, x1, f1, r1, v1, g1⟩ := h1 hr
  obtain ⟨E2, H2, bs, x2, f2, r2, v2, g2⟩ := h2 E1 H1 r1
  exact ⟨E2, H2, as ++ bs, x1.trans x2 f1.next, f1.trans f2, r2, (VRs.mono f2.next x2 v1).append v2, as, bs, rfl, g1.fr f1.wf f2, g2⟩
theorem trod_bool_inv {H : Type} {enc : TypeId × Value → H} {base : Nat} {sp : Nat → Bool} {held : Bool} {fuel : Nat} {t : TypeId} {cs : List Value} {x : DataW H × List MemPlace}
    (ht : P.underlying t = some .bool) (h : DataW.trod enc P W base sp held fuel t cs = some x) : ∃ b, cs = [.bool b] := by
  cases fuel with
  | zero => simp [DataW.trod] at h
  | succ n =>
    unfold DataW.trod at h
    rw [ht] at h
    split at h <;> simp_all
theorem trod_int_inv {H : Type} {enc : TypeId × Value → H} {base : Nat} {sp : Nat → Bool} {held : Bool} {fuel : Nat} {t : TypeId} {k : IntKind} {cs : List Value} {x : DataW H × List MemPlace}
    (ht : P.underlying t = some (.int k)) (h : DataW.trod enc P W base sp held fuel t cs = some x) : ∃ n, cs = [.int k n] ∧ (Lit.int k n).wf = true := by
  cases fuel with
  | zero => simp [DataW.trod] at h
  | succ n =>
    unfold DataW.trod at h
    rw [ht] at h
    split at h <;> simp_all
theorem trod_str_inv {H : Type} {enc : TypeId × Value → H} {base : Nat} {sp : Nat → Bool} {held : Bool} {fuel : Nat} {t : TypeId} {cs : List Value} {x : DataW H × List MemPlace}
    (ht : P.underlying t = some .string) (h : DataW.trod enc P W base sp held fuel t cs = some x) : ∃ s : ByteArray, cs = [.string s] ∧ s.size ≤ maxLen := by
  cases fuel with
  | zero => simp [DataW.trod] at h
  | succ n =>
    unfold DataW.trod at h
    rw [ht] at h
    split at h <;> simp_all
theorem cell_add {a : Addr} {k : Nat} {u : Value} (h : W.cell? (a.add k) = some u) : a.block < W.heap.size ∧ W.cell? ⟨a.block, a.off + k, none⟩ = some u ∧ (k = 0 → a.spot = none) := by
  have hb : a.block < W.heap.size := by
    have e : (a.add k).block = a.block := by unfold Addr.add; split <;> rfl
    unfold World.cell? at h
    rw [e] at h
    cases hh : W.heap[a.block]? with
    | none => simp [hh] at h
    | some o => exact (Array.getElem?_eq_some_iff.1 hh).1
  unfold Addr.add at h
  by_cases hk : k = 0
  · subst hk
    rw [if_pos rfl] at h
    have hs : a.spot = none := by
      unfold World.cell? at h
      cases hs : a.spot with
      | none => rfl
      | some x => simp [hs] at h; split at h <;> simp_all
    refine ⟨hb, ?_, fun _ => hs⟩
    rw [← h]
    obtain ⟨b, o, s⟩ := a
    simp at hs
    subst hs
    rfl
  · rw [if_neg hk] at h
    exact ⟨hb, h, fun e => absurd e hk⟩
theorem flatten_len {l : List (List AV)} {sz : Nat} (h : ∀ x ∈ l, x.length = sz) : l.flatten.length = l.length * sz := by
  induction l with
  | nil => simp
  | cons x l ih => rw [List.flatten_cons, List.length_append, ih fun y hy => h y (by simp [hy]), h x (by simp), List.length_cons, Nat.add_mul, Nat.one_mul, Nat.add_comm]
theorem VRs.get' {n : Nat} {E : Nat → Ent} : ∀ {as : List AV} {us : List Value}, VRs G n E as us → ∀ (i : Nat) v, as[i]? = some v → ∃ u, us[i]? = some u ∧ VR G n E v u
  | [], _, _, i, v, h => by simp at h
  | a :: as, us, ⟨x, r, e, h1, h2⟩, i, v, h => by
    subst e
    cases i with
    | zero => simp at h; subst h; exact ⟨x, rfl, h1⟩
    | succ i => exact h2.get' i v (by simpa using h)
theorem flatten_agg : ∀ l : List (List AV), l.flatten = l.flatMap fun x => (AV.agg x).cells
  | [] => rfl
  | x :: l => by rw [List.flatten_cons, List.flatMap_cons, flatten_agg l]; rfl
/-- The elements of a slice, one by one. -/
theorem imp_all {s : Sh} {a : Addr} : ∀ (len : Nat), (∀ i, i < len → ∃ cs, W.cells? 0 (a.add (i * s.size)) s.size = some cs ∧ ∀ E H, HRel G (prot W) W E H W → Imp P G W E H cs s) →
    ∀ E H, HRel G (prot W) W E H W → ∃ (E' : Nat → Ent) (H' : AHeap) (l : List (List AV)), Ext H.next E E' ∧ Fr H H' ∧ HRel G (prot W) W E' H' W ∧ l.length = len ∧ (∀ x ∈ l, Good H' s x) ∧
      ∀ (k : Nat) v, l.flatten[k]? = some v → ∃ u, W.cell? ⟨a.block, a.off + k, none⟩ = some u ∧ VR G H'.next E' v u
  | 0, _, E, H, hr => ⟨E, H, [], Ext.refl _ _, .refl hr.wf, hr, rfl, by simp, by simp⟩
  | len + 1, h, E, H, hr => by
    obtain ⟨E1, H1, l, x1, f1, r1, hl, g1, c1⟩ := imp_all len (fun i hi => h i (by omega)) E H hr
    obtain ⟨cs, hcs, hi⟩ := h len (by omega)
    obtain ⟨E2, H2, as, x2, f2, r2, v2, g2⟩ := hi E1 H1 r1
    obtain ⟨_, q2, q3⟩ := World.cells?_some hcs
    have hg1 : ∀ x ∈ l, Good H2 s x := fun x hx => (g1 x hx).fr f1.wf f2
    have hfl : l.flatten.length = len * s.size := by rw [flatten_len (sz := s.size) fun x hx => (hg1 x hx).len, hl]
    refine ⟨E2, H2, l ++ [as], x1.trans x2 f1.next, f1.trans f2, r2, by simp [hl], ?_, ?_⟩
    · intro x hx
      rcases List.mem_append.1 hx with hx | hx
      · exact hg1 x hx
      · rw [List.mem_singleton.1 hx]; exact g2
    · intro k v hk
      rw [List.flatten_append] at hk
      by_cases hlt : k < len * s.size
      · rw [List.getElem?_append_left (by omega)] at hk
        obtain ⟨u, p1, p2⟩ := c1 k v hk
        exact ⟨u, p1, p2.mono f2.next x2⟩
      · rw [List.getElem?_append_right (by omega), hfl] at hk
        simp only [List.flatten_cons, List.flatten_nil, List.append_nil] at hk
        obtain ⟨u, p1, p2⟩ := v2.get' _ _ hk
        have hks : k - len * s.size < s.size := by
          have := (List.getElem?_eq_some_iff.1 hk).1
          rw [g2.len] at this; exact this
        have p3 := q3 _ hks
        rw [p1, Deep.add_add] at p3
        have p4 := (cell_add p3).2.1
        rw [show len * s.size + (k - len * s.size) = k by omega] at p4
        exact ⟨u, p4, p2⟩
theorem imp_trod {H : Type} {enc : TypeId × Value → H} : ∀ (n : Nat) (t : TypeId) (s : Sh) (us : List Value) (fuel : Nat) (x : DataW H × List MemPlace), shOf P n t = some s → DataW.trod enc P W 0 (fun _ => true) true fuel t us = some x →
    (0 < W.heap.size ∨ ∀ u ∈ us, ∀ a l c, u ≠ .slice (some a) l c) → ∀ E K, HRel G (prot W) W E K W → Imp P G W E K us s
  | 0, t, s, us, fuel, x, hs, _, _, _, _, _ => by simp [shOf] at hs
  | n + 1, t, s, us, fuel, x, hs, h, hne, E, K, hr => by
    unfold shOf at hs
    cases ht : P.underlying t with
    | none => simp [ht] at hs
    | some d =>
      rw [ht] at hs
      have here : ∀ (a : AV) (u : Value), VR G K.next E a u → Good K s [a] → Imp P G W E K [u] s := fun a u h1 h2 =>
        ⟨E, K, [a], Ext.refl _ _, .refl hr.wf, hr, ⟨u, [], rfl, h1, rfl⟩, h2⟩
      cases d <;> simp only [reduceCtorEq] at hs
      case bool =>
        simp at hs; subst hs
        obtain ⟨b, rfl⟩ := trod_bool_inv ht h
        exact here (.bool b) _ rfl ⟨b, rfl⟩
      case int k =>
        simp at hs; subst hs
        obtain ⟨i, rfl, hw⟩ := trod_int_inv ht h
        exact here (.int k i) _ rfl ⟨i, rfl, hw⟩
      case string =>
        simp at hs; subst hs
        obtain ⟨b, rfl, hl⟩ := trod_str_inv ht h
        exact here (.str b.data.toList) _ (by show Value.string b = .string ⟨⟨b.data.toList⟩⟩; simp) ⟨_, rfl, by rw [Array.length_toList]; exact hl⟩
      case slice e =>
        cases he : shOf P n e with
        | none => simp [he] at hs
        | some s' =>
          simp only [he] at hs
          split at hs
          · rename_i hc
            simp at hs; subst hs
            rcases Deep.open_slice ht h with ⟨rfl, _⟩ | ⟨a, len, cap, m, n', D, Pl, rfl, _, hlc, hcm, hm, _, hx⟩
            · exact here (.slc none 0 0 none) _ ⟨rfl, rfl⟩ ⟨_, [], rfl, by simp, ⟨by simp, none, 0, none, rfl, by simp, rfl⟩, by simp⟩
            · rw [if_pos rfl] at hm
              rw [hm] at hx
              have hpos : 0 < W.heap.size := by
                rcases hne with h | h
                · exact h
                · exact absurd rfl (h _ (by simp) a len cap)
              obtain ⟨E1, H1, l, x1, f1, r1, hl, g1, c1⟩ := imp_all (P := P) (G := G) (s := s') (a := a) len (fun i hi => by
                obtain ⟨cs', p1, p2⟩ := hx i (by omega)
                rw [hc.1] at p1
                exact ⟨cs', p1, fun E H hr => imp_trod n e s' cs' n' _ he p2 (.inl hpos) E H hr⟩) E K hr
              have hspot : 0 < cap → a.block < W.heap.size ∧ a.spot = none := by
                intro h0
                obtain ⟨cs', p1, p2⟩ := hx 0 h0
                obtain ⟨_, q2, q3⟩ := World.cells?_some p1
                have hz := hc.1
                have hz' := hc.2
                have q4 := q3 0 (by omega)
                rw [Deep.add_add] at q4
                cases hcs : cs'[0]? with
                | none => rw [List.getElem?_eq_none_iff] at hcs; omega
                | some u =>
                  rw [hcs] at q4
                  have q5 := cell_add q4
                  exact ⟨q5.1, q5.2.2 (by simp)⟩
              have hE : ∃ ent : Ent, ent.g < W.heap.size ∧ (0 < cap → ent = ⟨a.block, a.off, cap * s'.size⟩) := by
                by_cases h0 : 0 < cap
                · exact ⟨_, (hspot h0).1, fun _ => rfl⟩
                · exact ⟨⟨0, 0, 0⟩, hpos, fun h => absurd h h0⟩
              obtain ⟨ent, e1, e2⟩ := hE
              have hcells : ∀ (i : Nat) v, l.flatten[i]? = some v → ∃ u, W.cell? ⟨ent.g, ent.o + i, none⟩ = some u ∧ VR G H1.next E1 v u := by
                intro i v hi
                have : 0 < cap := by
                  rcases Nat.eq_zero_or_pos cap with h0 | h0
                  · have : l = [] := List.length_eq_zero_iff.1 (by omega)
                    subst this; simp at hi
                  · exact h0
                rw [e2 this]
                exact c1 i v hi
              have r2 := r1.newRo e1 hcells
              have f2 := r1.wf.fr_newRo (cs := l.flatten)
              have hl' : ∀ x ∈ l, x.length = s'.size := fun x hx => (g1 x hx).len
              refine ⟨upd E1 H1.next ent, H1.newRo l.flatten, [.slc (some (H1.next, 0)) s'.size len (some cap)], x1.trans (fun b hb => upd_ne _ _ _ (by omega)) f1.next, f1.trans f2, r2, ⟨_, [], rfl, ⟨Nat.lt_succ_self _, a, cap, rfl, hlc, fun k hk => by cases hk; rfl, fun h0 => ?_⟩, rfl⟩, ?_⟩
              · rw [upd_same, e2 h0]
                obtain ⟨q1, q2⟩ := hspot h0
                refine ⟨?_, by show 0 + cap * s'.size ≤ cap * s'.size; omega⟩
                obtain ⟨b, o, sp⟩ := a
                simp at q2
                subst q2
                rfl
              · refine ⟨_, l, rfl, by omega, ⟨hl', some (H1.next, 0), s'.size, some cap, by rw [hl], by intro c hc; cases hc; omega, rfl, H1.next, _, row_newRo, ?_, ?_⟩, fun x hx => (g1 x hx).fr f1.wf f2⟩
                · rw [flatten_len hl']; omega
                · rw [List.drop_zero, ← flatten_len hl', List.take_length]
                  exact flatten_agg l
          · cases hs
      case struct fs =>
        cases hf : shFields (shOf P n) P 0 fs.toList with
        | none => simp [hf] at hs
        | some s' =>
          simp only [hf] at hs
          split at hs
          · rename_i hc
            simp at hs; subst hs
            obtain ⟨xs, n', _, _, hlen, hxs, hx⟩ := DataW.trod_struct ht h
            have fields : ∀ (l : List Field) (off : Nat) (s : Sh) (i0 : Nat), shFields (shOf P n) P off l = some s → (∀ i f, l[i]? = some f → fs[i0 + i]? = some f) → off + s.size = us.length → ∀ E K, HRel G (prot W) W E K W → Imp P G W E K (us.drop off) s := by
              intro l
              induction l with
              | nil =>
                intro off s i0 hs' _ hsz E K hr
                simp [shFields] at hs'; subst hs'
                have : us.drop off = [] := List.drop_eq_nil_of_le (by simp [Sh.size] at hsz; omega)
                rw [this]
                exact ⟨E, K, [], Ext.refl _ _, .refl hr.wf, hr, rfl, rfl⟩
              | cons f l ih =>
                intro off s i0 hs' hmem hsz E K hr
                unfold shFields at hs'
                cases h1 : shOf P n f.type with
                | none => simp [h1] at hs'
                | some s1 =>
                  simp only [h1] at hs'
                  split at hs'
                  · rename_i hc1
                    cases h2 : shFields (shOf P n) P (off + s1.size) l with
                    | none => simp [h2] at hs'
                    | some s2 =>
                      simp [h2] at hs'; subst hs'
                      have hfi := hmem 0 f rfl
                      have hlt : i0 < fs.size := (Array.getElem?_eq_some_iff.1 hfi).1
                      have htr := hx i0 f hfi
                      rw [List.getElem?_eq_getElem (by omega), hc1.1, hc1.2] at htr
                      have e : us.drop off = (us.drop off).take s1.size ++ us.drop (off + s1.size) := by
                        rw [← List.drop_drop, List.take_append_drop]
                      rw [e]
                      refine Imp.cons (fun hr => imp_trod n f.type s1 _ n' _ h1 htr (hne.imp id fun h u hu => h u (List.mem_of_mem_drop (List.mem_of_mem_take hu))) E K hr) hr fun E K hr => ih (off + s1.size) s2 (i0 + 1) h2 (fun i f' hf' => by rw [Nat.add_assoc, Nat.add_comm 1 i]; exact hmem (i + 1) f' (by simpa using hf')) (by simp [Sh.size] at hsz; omega) E K hr
                  · cases hs'
            have := fields fs.toList 0 s' 0 hf (fun i f hf => by simpa using hf) (by omega) E K hr
            simpa using this
          · cases hs
      case array m e =>
        cases he : shOf P n e with
        | none => simp [he] at hs
        | some s' =>
          simp only [he] at hs
          split at hs
          · rename_i hc
            simp at hs; subst hs
            obtain ⟨xs, n', _, _, hlen, hxs, hx⟩ := DataW.trod_array ht h
            rw [hc.2] at hlen
            have elems : ∀ (k i : Nat), k + i = m → ∀ E K, HRel G (prot W) W E K W → Imp P G W E K (us.drop (i * s'.size)) (shRep s' k) := by
              intro k
              induction k with
              | zero =>
                intro i hi E K hr
                have : us.drop (i * s'.size) = [] := List.drop_eq_nil_of_le (by rw [hlen, ← hi, Nat.zero_add]; exact Nat.le_refl _)
                rw [this]
                exact ⟨E, K, [], Ext.refl _ _, .refl hr.wf, hr, rfl, rfl⟩
              | succ k ih =>
                intro i hi E K hr
                have htr := hx i (by omega)
                rw [List.getElem?_eq_getElem (by omega), hc.1] at htr
                have e : us.drop (i * s'.size) = (us.drop (i * s'.size)).take s'.size ++ us.drop ((i + 1) * s'.size) := by
                  rw [Nat.add_mul, Nat.one_mul, ← List.drop_drop, List.take_append_drop]
                rw [e]
                exact Imp.cons (fun hr => imp_trod n _ s' _ n' _ he htr (hne.imp id fun h u hu => h u (List.mem_of_mem_drop (List.mem_of_mem_take hu))) E K hr) hr fun E K hr => ih (i + 1) (by omega) E K hr
            have := elems m 0 (by omega) E K hr
            simpa using this
          · cases hs
end
end Go.Am

/- A row's statement out of what the small machine's call gives. -/
set_option linter.unusedVariables false
set_option linter.unusedSimpArgs false
namespace Go.Am
open Go.RowKit Go.ChangeShapes
def Sh.isAgg : Sh → Bool
  | .nilA | .consA _ _ => true
  | _ => false
/-- An argument of a shape. -/
def GoodV (H : AHeap) (s : Sh) (a : AV) : Prop := if s.isAgg then ∃ cs, a = .agg cs ∧ Good H s cs else Good H s [a]
def Goods (H : AHeap) : List Sh → List AV → Prop
  | [], as => as = []
  | s :: ss, as => ∃ a r, as = a :: r ∧ GoodV H s a ∧ Goods H ss r
theorem GoodV.fr {H H' : AHeap} (hw : WF H) (k : Fr H H') {s : Sh} {a : AV} (h : GoodV H s a) : GoodV H' s a := by
  unfold GoodV at h ⊢
  split
  · rename_i e; rw [if_pos e] at h; obtain ⟨cs, h1, h2⟩ := h; exact ⟨cs, h1, h2.fr hw k⟩
  · rename_i e; rw [if_neg e] at h; exact h.fr hw k
section
variable {P : Program} {G : Nat → Nat} {W : World}
theorem cell_slice {r : Reach} {base : Nat} {t : TypeId} {a : Addr} {l c : Nat} (h : Cell.okWide P W r base t (.slice (some a) l c)) : 0 < W.heap.size := by
  unfold Cell.okWide at h
  split at h <;> simp_all [Cell.ok]
  split at h <;> simp_all
  obtain ⟨_, _, _, _, row, cells, hs, _⟩ := h
  unfold World.shape? at hs
  cases hh : W.heap[a.block]? with
  | none => simp_all
  | some o => have := (Array.getElem?_eq_some_iff.1 hh).1; omega
theorem okWide_slices {r : Reach} {base : Nat} {t : TypeId} {v : Value} (h : Value.okWide P W r base t v) : 0 < W.heap.size ∨ ∀ u ∈ v.cells.toList, ∀ a l c, u ≠ .slice (some a) l c := by
  by_cases hp : 0 < W.heap.size
  · exact .inl hp
  right
  intro u hu a l c e
  subst e
  apply hp
  unfold Value.okWide at h
  split at h
  · obtain ⟨cs, rfl, _, ts, _, _, h⟩ := h
    obtain ⟨i, hi⟩ := List.getElem?_of_mem hu
    obtain ⟨ty, _, h2⟩ := h i _ (by simpa [Value.cells] using hi)
    exact cell_slice h2
  · obtain ⟨cs, rfl, _, ts, _, _, h⟩ := h
    obtain ⟨i, hi⟩ := List.getElem?_of_mem hu
    obtain ⟨ty, _, h2⟩ := h i _ (by simpa [Value.cells] using hi)
    exact cell_slice h2
  · cases v with
    | agg cs =>
      unfold Cell.okWide at h
      split at h <;> simp_all [Cell.ok]
    | slice p n m => simp [Value.cells] at hu; obtain ⟨rfl, rfl, rfl⟩ := hu; exact cell_slice h
    | _ => simp [Value.cells] at hu
theorem shFields_agg {sh : TypeId → Option Sh} : ∀ {l : List Field} {n : Nat} {s : Sh}, shFields sh P n l = some s → s.isAgg = true
  | [], n, s, h => by simp [shFields] at h; subst h; rfl
  | f :: l, n, s, h => by
    unfold shFields at h
    split at h
    · split at h
      · split at h
        · simp at h; subst h; rfl
        · cases h
      · cases h
    · cases h
theorem shOf_agg {n : Nat} {t : TypeId} {s : Sh} (hs : shOf P n t = some s) : (s.isAgg = true ∧ ((∃ fs, P.underlying t = some (.struct fs)) ∨ ∃ m e, P.underlying t = some (.array m e))) ∨
    (s.isAgg = false ∧ (∀ fs, P.underlying t ≠ some (.struct fs)) ∧ ∀ m e, P.underlying t ≠ some (.array m e)) := by
  cases n with
  | zero => simp [shOf] at hs
  | succ n =>
    unfold shOf at hs
    cases hu : P.underlying t with
    | none => simp [hu] at hs
    | some d =>
      rw [hu] at hs
      cases d <;> simp only [reduceCtorEq] at hs
      case bool => simp at hs; subst hs; right; simp [Sh.isAgg]
      case int => simp at hs; subst hs; right; simp [Sh.isAgg]
      case string => simp at hs; subst hs; right; simp [Sh.isAgg]
      case slice e =>
        right
        split at hs
        · split at hs
          · simp at hs; subst hs; simp [Sh.isAgg]
          · cases hs
        · cases hs
      case struct fs =>
        left
        split at hs
        · rename_i s' hf
          split at hs
          · simp at hs; subst hs; exact ⟨shFields_agg hf, .inl ⟨_, rfl⟩⟩
          · cases hs
        · cases hs
      case array m e =>
        left
        split at hs
        · split at hs
          · simp at hs; subst hs; exact ⟨by cases m <;> rfl, .inr ⟨_, _, rfl⟩⟩
          · cases hs
        · cases hs
theorem imp_arg {H : Type} {enc : TypeId × Value → H} {n : Nat} {t : TypeId} {s : Sh} {v : Value} {d : DataW H} {ps : List MemPlace} {r : Reach} {base : Nat} (hs : shOf P n t = some s) (h : DataW.Trod enc P W 0 (fun _ => true) true t v d ps)
    (hv : Value.okWide P W r base t v) {E : Nat → Ent} {K : AHeap} (hr : HRel G (prot W) W E K W) :
    ∃ E' K' a, Ext K.next E E' ∧ Fr K K' ∧ HRel G (prot W) W E' K' W ∧ VR G K'.next E' a v ∧ GoodV K' s a := by
  obtain ⟨fuel, h⟩ := h
  obtain ⟨E', K', as, x1, f1, r1, v1, g1⟩ := imp_trod (G := G) n t s _ fuel _ hs h (okWide_slices hv) E K hr
  have agg : s.isAgg = true → ∃ cs, v = .agg cs := by
    intro ha
    rcases shOf_agg hs with ⟨_, ⟨fs, hu⟩ | ⟨m, e, hu⟩⟩ | ⟨h1, _⟩
    · unfold Value.okWide at hv; rw [hu] at hv; obtain ⟨cs, e, _⟩ := hv; exact ⟨cs, e⟩
    · unfold Value.okWide at hv; rw [hu] at hv; obtain ⟨cs, e, _⟩ := hv; exact ⟨cs, e⟩
    · rw [h1] at ha; cases ha
  have cell : s.isAgg = false → v.cells.toList = [v] := by
    intro ha
    have hc : ∀ cs, v ≠ .agg cs := by
      rintro cs rfl
      rcases shOf_agg hs with ⟨h1, _⟩ | ⟨_, h1, h2⟩
      · rw [h1] at ha; cases ha
      · unfold Value.okWide at hv
        split at hv
        · rename_i hu; exact h1 _ hu
        · rename_i hu; exact h2 _ _ hu
        · unfold Cell.okWide at hv
          split at hv <;> simp_all [Cell.ok]
    cases v <;> first | rfl | exact absurd rfl (hc _)
  cases ha : s.isAgg with
  | true =>
    obtain ⟨cs, rfl⟩ := agg ha
    exact ⟨E', K', .agg as, x1, f1, r1, ⟨cs, rfl, v1⟩, by unfold GoodV; rw [if_pos ha]; exact ⟨as, rfl, g1⟩⟩
  | false =>
    rw [cell ha] at v1
    obtain ⟨a, rfl⟩ : ∃ a, as = [a] := by
      cases as with
      | nil => have v1 : [v] = [] := v1; cases v1
      | cons a as =>
        obtain ⟨u, r, e, _, h3⟩ := v1
        cases e
        cases as with
        | nil => exact ⟨a, rfl⟩
        | cons b bs => obtain ⟨_, _, e, _⟩ := h3; cases e
    obtain ⟨u, r, e, h2, _⟩ := v1
    cases e
    exact ⟨E', K', a, x1, f1, r1, h2, by unfold GoodV; rw [if_neg (by rw [ha]; simp)]; exact g1⟩
def shsOf (P : Program) (n : Nat) : List TypeId → Option (List Sh)
  | [] => some []
  | t :: ts => match shOf P n t, shsOf P n ts with | some s, some ss => some (s :: ss) | _, _ => none
theorem imp_args {H : Type} {enc : TypeId × Value → H} {n : Nat} {r : Reach} {base : Nat} : ∀ {ts : List TypeId} {vs : List Value} {ds : List (DataW H)} {ps : List MemPlace} {ss : List Sh}, shsOf P n ts = some ss → DataW.TrodAll enc P W 0 (fun _ => true) true ts vs ds ps →
    (∀ (j : Nat) t v, ts[j]? = some t → vs[j]? = some v → Value.okWide P W r base t v) → ∀ {E : Nat → Ent} {K : AHeap}, HRel G (prot W) W E K W →
    ∃ E' K' as, Ext K.next E E' ∧ Fr K K' ∧ HRel G (prot W) W E' K' W ∧ VRs G K'.next E' as vs ∧ Goods K' ss as
  | [], [], [], ps, ss, hs, h, _, E, K, hr => by simp [shsOf] at hs; subst hs; exact ⟨E, K, [], Ext.refl _ _, .refl hr.wf, hr, rfl, rfl⟩
  | t :: ts, v :: vs, d :: ds, ps, ss, hs, ⟨p, q, h1, h2, e⟩, hv, E, K, hr => by
    unfold shsOf at hs
    cases k1 : shOf P n t with
    | none => simp [k1] at hs
    | some s =>
      cases k2 : shsOf P n ts with
      | none => simp [k1, k2] at hs
      | some ss' =>
        simp [k1, k2] at hs; subst hs
        obtain ⟨E1, K1, a, x1, f1, r1, v1, g1⟩ := imp_arg k1 h1 (hv 0 t v rfl rfl) hr
        obtain ⟨E2, K2, as, x2, f2, r2, v2, g2⟩ := imp_args k2 h2 (fun j t v h3 h4 => hv (j + 1) t v (by simpa using h3) (by simpa using h4)) r1
        exact ⟨E2, K2, a :: as, x1.trans x2 f1.next, f1.trans f2, r2, ⟨v, vs, rfl, v1.mono f2.next x2, v2⟩, a, as, rfl, g1.fr f1.wf f2, g2⟩
/-- The table with an oracle. -/
abbrev otab (F : Nat → Option AFunc) (p : Nat → Option (List AV → AHeap → Option (AV × AHeap))) (ω : Ora) : Tab := ⟨F, oprims ω p⟩
/-- The model's call, out of the small machine's under each oracle. -/
theorem model_calls {F : Nat → Option AFunc} {p : Nat → Option (List AV → AHeap → Option (AV × AHeap))} {B : Prot} {w0 : Base} (L : Link P G B w0 F p) {f : Nat} {ir : AFunc} (hF : F (G f) = some ir) {args : List AV} {K : AHeap} {Q : AV → AHeap → Prop} (h : ∀ ω, Calls (otab F p ω) (G f) args K Q)
    {w : World} {E : Nat → Ent} {us : List Value} (hr : HRel G B w0 E K w) (hv : VRs G K.next E args us) :
    _root_.Go.Calls P f us.toArray w fun e w' => ∃ v K' u E', e = .returned u ∧ VR G K'.next E' v u ∧ Q v K' ∧ HRel G B w0 E' K' w' := by
  -- one bound for all oracles
  obtain ⟨n, hn⟩ := fan (P := fun n ω => ∃ v K', acall F (oprims ω p) n (G f) args K = some (v, K') ∧ Q v K')
    (fun n m ω hnm ⟨v, K', h1, h2⟩ => ⟨v, K', acall_mono (T := otab F p ω) hnm _ _ _ _ h1, h2⟩)
    (fun ω => by
      obtain ⟨n, v, K', h1, h2⟩ := h ω
      exact ⟨n, K'.next, fun ω' hag => ⟨v, K', (acall_pr L.up L.noF.1 hag n).up _ _ _ _ _ h1 (Nat.le_refl _), h2⟩⟩)
  obtain ⟨fn, hfn, hcf⟩ := L.fn f ir hF
  have henter : (callFunc f us.toArray).run P w = .ok (.enter f us.toArray) w := by
    unfold compileFn at hcf
    cases hb : fn.body with
    | none => simp [hb] at hcf
    | some c =>
      simp only [hb] at hcf
      split at hcf
      · split at hcf
        · cases hcf
        · rename_i hname
          have hname := (not_or.1 hname).1
          simp [callFunc, hfn, hb, hname]
      · cases hcf
  rcases (acall_sound L n).call f args K (fun _ => false) (fun ω' _ => by obtain ⟨v, K', h1, _⟩ := hn ω'; exact ⟨v, K', h1⟩) B (Sub.refl B) E w us hr hv with ⟨v, K', u, w', E', _, q1, _⟩ | ⟨f', us', q1, q2⟩
  · rw [henter] at q1; simp at q1
  · rw [henter] at q1
    simp at q1
    obtain ⟨rfl, rfl⟩ := q1
    refine q2.mono fun e w' ⟨v, K', u, E', ⟨ω', _, hc⟩, e1, e2, _, _, e3⟩ => ?_
    obtain ⟨v2, K2, h1, h2⟩ := hn ω'
    rw [hc] at h1
    simp only [Option.some.injEq, Prod.mk.injEq] at h1
    obtain ⟨rfl, rfl⟩ := h1
    exact ⟨v, K', u, E', e1, e2, h2, e3⟩
theorem stays_all {H : Type} {enc : TypeId × Value → H} (hl : laidOutB P = true) {W' : World} (hb : Below W.heap.size W W') {sp : Nat → Bool} : ∀ {ts : List TypeId} {vs : List Value} {ds : List (DataW H)} {ps : List MemPlace},
    (∀ t ∈ ts, P.readableRec t = true ∧ t < P.types.size) → DataW.TrodAll enc P W 0 (fun _ => true) true ts vs ds ps → (∀ p ∈ ps, p.block < W.heap.size) → (∀ p ∈ ps, sp p.block = true) → DataW.TrodAll enc P W' 0 sp true ts vs ds ps
  | [], [], [], _, _, h, _, _ => h
  | t :: ts, v :: vs, d :: ds, ps, ht, ⟨p, q, h1, h2, e⟩, hlt, hs => by
    have hp : ∀ x ∈ p, x ∈ ps := fun x hx => by rw [e]; exact List.mem_append_left _ hx
    have hq : ∀ x ∈ q, x ∈ ps := fun x hx => by rw [e]; exact List.mem_append_right _ hx
    obtain ⟨a1, a2⟩ := ht t (by simp)
    exact ⟨p, q, WideElems.Trod_stays hl a1 a2 h1 (fun x hx => hb.same (hlt x (hp x hx))) (fun x hx => hs x (hp x hx)), stays_all hl hb (fun t ht' => ht t (by simp [ht'])) h2 (fun x hx => hlt x (hq x hx)) (fun x hx => hs x (hq x hx)), e⟩
theorem trods_len {H : Type} {enc : TypeId × Value → H} {w : World} {b : Nat} {sp : Nat → Bool} {hd : Bool} : ∀ {ts : List TypeId} {vs : List Value} {ds : List (DataW H)} {ps : List MemPlace}, DataW.TrodAll enc P w b sp hd ts vs ds ps → ds.length = ts.length
  | [], [], [], _, _ => rfl
  | _ :: _, _ :: _, _ :: _, _, ⟨_, _, _, h, _⟩ => by simp [trods_len h]
/-- THE ROW's CONTRACT, out of the small machine's. -/
theorem row_contract {F : Nat → Option AFunc} {pr : Nat → Option (List AV → AHeap → Option (AV × AHeap))} (L : Link P G (prot W) W F pr) {f : Nat} {ir : AFunc} (hF : F (G f) = some ir) {fn : Func} {s : ChangeSpec} {n : Nat} {ss : List Sh} {tb : TypeId}
    (hl : laidOutB P = true) (hrd : fn.params.toList.all (fun t => P.readableRec t && decide (t < P.types.size)) = true) (hss : shsOf P n fn.params.toList = some ss)
    (hvars : s.vars = []) (hrt : fn.resultTypes = #[tb]) (htb : P.underlying tb = some .bool)
    {fresh handsOn : Bool} {H : Type} {enc : TypeId × Value → H} {base : Nat} {args : Array Value} {ds gs : List (DataW H)} {before : List MemPlace}
    (hval : ∀ (j : Nat) t v, fn.params[j]? = some t → args[j]? = some v → Value.okWide P W .any base t v)
    (hW : DataW.Whole enc P fn.params.toList s.vars false W args.toList ds gs before)
    (hspec : ds.length = fn.params.toList.length → s.fn H (ds ++ []) = { results := [.lit (.bool true)], args := ds })
    (law : ∀ ω K as, WF K → Goods K ss as → Calls (otab F pr ω) (G f) as K fun v _ => v = .bool true) :
    _root_.Go.Calls P f args W fun e W' => ∃ v, e = .returned v ∧ s.post enc P fn false fresh handsOn false W args v W' := by
  have hW' := hW
  obtain ⟨p, q, hA, hV, rfl, hfz, hnd⟩ := hW
  obtain ⟨rfl, rfl⟩ : gs = [] ∧ q = [] := by rw [hvars] at hV; exact trodVars_none hV
  obtain ⟨E, K, as, x1, f1, r1, v1, g1⟩ := imp_args (G := G) (n := n) hss hA (fun j t v h1 h2 => hval j t v (by simpa using h1) (by simpa using h2)) HRel.empty
  have h := model_calls L hF (fun ω => law ω K as f1.wf g1) r1 v1
  have ha : args.toList.toArray = args := by simp
  rw [ha] at h
  refine h.mono fun e W' ⟨v, K', u, E', e1, e2, e3, e4⟩ => ?_
  subst e3
  have e2 : u = .bool true := e2
  subst e2
  refine ⟨_, e1, ?_⟩
  have hbel := e4.below.to_below
  have hlen := trods_len hA
  have hsp := hspec hlen
  have hlt : ∀ x ∈ p, x.block < W.heap.size := fun x hx => hW'.lt x (by simpa using hx)
  have hall : ∀ t ∈ fn.params.toList, P.readableRec t = true ∧ t < P.types.size := fun t ht => by
    have := List.all_eq_true.1 hrd t ht
    simpa using this
  refine ⟨ds, [], _, [], p, [], hW', ?_, ?_, ?_, hbel.frame _, fun h => by cases h⟩
  · rw [hsp, hrt]
    exact trodAll_cons_mk (shut_bool htb _) trodAll_mk0
  · rw [hsp]
    exact stays_all hl hbel hall hA hlt (fun x hx => by simpa using hlt x hx)
  · rw [hsp, hvars]
    rfl
end
end Go.Am

/- What an argument of a shape is: a number, a text, a list of numbers, of texts, of lists. -/
set_option linter.unusedVariables false
set_option linter.unusedSimpArgs false
namespace Go.Am
section
variable {α : Type} {enc : α → AV} {sz : Nat}
end
theorem GoodV.int {H : AHeap} {k : IntKind} {a : AV} (h : GoodV H (.int k) a) : ∃ n, a = .int k n ∧ (Lit.int k n).wf = true := by
  have h : Good H (.int k) [a] := h
  obtain ⟨n, h1, h2⟩ := h
  cases h1
  exact ⟨n, rfl, h2⟩
theorem GoodV.bool {H : AHeap} {a : AV} (h : GoodV H .bool a) : ∃ b, a = .bool b := by
  have h : Good H .bool [a] := h
  obtain ⟨n, h1⟩ := h
  cases h1
  exact ⟨n, rfl⟩
theorem GoodV.str {H : AHeap} {a : AV} (h : GoodV H .str a) : ∃ s : List UInt8, a = .str s ∧ s.length ≤ maxLen := by
  have h : Good H .str [a] := h
  obtain ⟨n, h1, h2⟩ := h
  cases h1
  exact ⟨n, rfl, h2⟩
/-! ### Tables -/
def look (l : List (Nat × AFunc)) (g : Nat) : Option AFunc :=
  match l with
  | [] => none
  | (k, ir) :: r => if g = k then some ir else look r g
theorem look_lt {b g : Nat} : ∀ {l : List (Nat × AFunc)} {ir : AFunc}, (l.all fun p => decide (p.1 < b)) = true → look l g = some ir → g < b
  | [], _, _, h => by simp [look] at h
  | (k, ir') :: r, ir, ha, h => by
    unfold look at h
    simp at ha
    split at h
    · rename_i e; subst e; exact ha.1
    · exact look_lt (l := r) (by simpa using ha.2) h
/-- The functions of a program, one by one. -/
def Linked (P : Program) (G : Nat → Nat) (l : List (Nat × AFunc)) : Nat → List Nat → Prop
  | _, [] => True
  | f, g :: gs => (∀ ir, look l g = some ir → ∃ fn, P.funcs[f]? = some fn ∧ compileFn P G fn = some ir) ∧ Linked P G l (f + 1) gs
theorem Linked.no {P : Program} {G : Nat → Nat} {l : List (Nat × AFunc)} {f g : Nat} {gs : List Nat} (h : look l g = none) (k : Linked P G l (f + 1) gs) : Linked P G l f (g :: gs) :=
  ⟨fun ir hi => by rw [h] at hi; (cases hi), k⟩
theorem Linked.yes {P : Program} {G : Nat → Nat} {l : List (Nat × AFunc)} {f g : Nat} {gs : List Nat} {ir : AFunc} {fn : Func} (h : look l g = some ir) (h1 : P.funcs[f]? = some fn) (h2 : compileFn P G fn = some ir) (k : Linked P G l (f + 1) gs) : Linked P G l f (g :: gs) :=
  ⟨fun ir' hi => by rw [h] at hi; cases hi; exact ⟨fn, h1, h2⟩, k⟩
theorem Linked.at_ {P : Program} {G : Nat → Nat} {l : List (Nat × AFunc)} : ∀ {gs : List Nat} {f : Nat}, Linked P G l f gs → ∀ i g, gs[i]? = some g → ∀ ir, look l g = some ir → ∃ fn, P.funcs[f + i]? = some fn ∧ compileFn P G fn = some ir
  | [], _, _, i, g, h, _, _ => by simp at h
  | x :: gs, f, ⟨h1, h2⟩, i, g, h, ir, hi => by
    cases i with
    | zero => simp at h; subst h; exact h1 ir hi
    | succ i =>
      have := h2.at_ i g (by simpa using h) ir hi
      rwa [show f + 1 + i = f + (i + 1) by omega] at this
def gOf (gl : List Nat) (f : Nat) : Nat := gl.getD f (1000000 + f)
theorem link_of {P : Program} {B : Prot} {w0 : Base} {gl : List Nat} {l : List (Nat × AFunc)} {p : Nat → Option (List AV → AHeap → Option (AV × AHeap))} (hm : P.follows .mixedOrders = true) (hb : (l.all fun p => decide (p.1 < 999997)) = true) (hg : (gl.all fun g => decide (g < 999997)) = true) (hu : PrimsUp p) (h : Linked P (gOf gl) l 0 gl)
    (hp : ∀ f q, p (gOf gl f) = some q → ∀ args H v H', q args H = some (v, H') → ∀ S, Sub B S → ∀ E w us, HRel (gOf gl) S w0 E H w → VRs (gOf gl) H.next E args us → Back P (gOf gl) S w0 E H w (callFunc f us.toArray) v H') (hpy : p yldF = none := by rfl) :
    Link P (gOf gl) B w0 (look l) p := by
  have hb2 : (l.all fun p => decide (p.1 < 1000000)) = true := by
    rw [List.all_eq_true] at hb ⊢
    intro x hx
    have := hb x hx
    simp only [decide_eq_true_eq] at this ⊢
    omega
  have noF : ∀ g, 999997 ≤ g → look l g = none := by
    intro g hg
    cases hi : look l g with
    | none => rfl
    | some ir =>
      exfalso
      have : ∀ (l : List (Nat × AFunc)), (l.all fun p => decide (p.1 < 999997)) = true → look l g = some ir → False := by
        intro l
        induction l with
        | nil => intro _ h; simp [look] at h
        | cons x l ih =>
          intro h1 h2
          simp only [List.all_cons, Bool.and_eq_true, decide_eq_true_eq] at h1
          obtain ⟨i, y⟩ := x
          unfold look at h2
          split at h2
          · omega
          · exact ih h1.2 h2
      exact this l hb hi
  have out : ∀ f, gOf gl f < 999997 ∨ 1000000 ≤ gOf gl f := by
    intro f
    unfold gOf
    rw [List.getD_eq_getElem?_getD]
    cases hgf : gl[f]? with
    | none => simp only [Option.getD_none]; omega
    | some g =>
      have := List.all_eq_true.1 hg g (List.mem_of_getElem? hgf)
      simp only [decide_eq_true_eq] at this
      simp only [Option.getD_some]; omega
  refine ⟨hm, fun f ir hi => ?_, hp, fun f => ?_, ⟨noF _ (by decide), noF _ (by decide)⟩, hu, fun f => by have := out f; unfold yldF; omega, noF _ (by decide), hpy⟩
  rotate_left
  · unfold gOf
    rw [List.getD_eq_getElem?_getD]
    cases hgf : gl[f]? with
    | none => simp only [Option.getD_none]; unfold nxtF rngF; omega
    | some g =>
      have := List.all_eq_true.1 hg g (List.mem_of_getElem? hgf)
      simp only [decide_eq_true_eq] at this
      simp only [Option.getD_some]; unfold nxtF rngF; omega
  have hlt := look_lt hb2 hi
  unfold gOf at hi hlt
  cases hg : gl[f]? with
  | none => simp [List.getD, hg] at hlt; omega
  | some g =>
    simp [List.getD, hg] at hi
    have := h.at_ f g hg ir hi
    rwa [Nat.zero_add] at this
end Go.Am
