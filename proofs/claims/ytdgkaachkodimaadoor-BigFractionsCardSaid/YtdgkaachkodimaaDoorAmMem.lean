/- How the relation is kept when a row is made, written, or appended to. -/
import Derived.Test.YtdgkaachkodimaaDoorAmRel
set_option linter.unusedVariables false
set_option linter.unusedSimpArgs false
namespace Go.Am
open Go.RowKit
variable {G : Nat → Nat}
/-! ### Small facts on worlds -/
theorem isSome_setCells (b : Nat) : ∀ (vs : List Value) (o : Nat) (w : World) (x : Addr), (w.cell? x).isSome = true → ((w.setCells b o vs).cell? x).isSome = true
  | [], _, _, _, h => h
  | v :: r, o, w, x, h => by
    rw [World.setCells]
    refine isSome_setCells b r (o + 1) _ x ?_
    obtain ⟨u, hu⟩ := Option.isSome_iff_exists.1 h
    obtain ⟨v', hv⟩ := cell?_setCell_some (p := ⟨b, o, none⟩) (x := v) hu
    rw [hv]; rfl
theorem heap_setCell_obj {w : World} {k : Nat} {x : Obj} (hx : NoCells x) (h : w.heap[k]? = some x) (a : Addr) (v : Value) : (w.setCell a v).heap[k]? = some x := by
  simp only [World.setCell, Array.getElem?_modify]
  split
  · rw [h]
    cases x <;> first | rfl | exact absurd rfl (hx _ _ _)
  · exact h
theorem heap_setCells_obj {k : Nat} {x : Obj} (hx : NoCells x) (b : Nat) : ∀ (vs : List Value) (o : Nat) (w : World), w.heap[k]? = some x → (w.setCells b o vs).heap[k]? = some x
  | [], _, _, h => h
  | v :: r, o, w, h => by rw [World.setCells]; exact heap_setCells_obj hx b r (o + 1) _ (heap_setCell_obj hx h _ _)
theorem below_setCells {B : Prot} {a : World} {b : Nat} (hb : B b = none) : ∀ (vs : List Value) (o : Nat) (w : World), Keep B a w → Keep B a (w.setCells b o vs)
  | [], _, _, h => h
  | v :: r, o, w, h => by rw [World.setCells]; exact below_setCells hb r (o + 1) _ (h.setCell hb v)
theorem TK.setCells (b : Nat) : ∀ (vs : List Value) (o : Nat) (w : World), TK w (w.setCells b o vs)
  | [], _, _ => TK.refl _
  | v :: r, o, w => by rw [World.setCells]; exact (TK.setCell _ _ _).trans (TK.setCells b r (o + 1) _)
theorem size_setCells (b : Nat) : ∀ (vs : List Value) (o : Nat) (w : World), (w.setCells b o vs).heap.size = w.heap.size
  | [], _, _ => rfl
  | v :: r, o, w => by rw [World.setCells, size_setCells b r (o + 1), World.size_setCell]
/-- A row stays known in another world, where what it shows is the same. -/
theorem RowR.move {B : Prot} {z n m : Nat} {E E' : Nat → Ent} {w w' : World} {b : Nat} {own : Bool} {cs : List AV} (h : RowR G B z n E w b own cs)
    (hn : n ≤ m) (hE : Ext n E E')
    (h1 : ∀ i, i < cs.length → w'.cell? ⟨(E b).g, (E b).o + i, none⟩ = w.cell? ⟨(E b).g, (E b).o + i, none⟩)
    (h2 : ∀ i, (w.cell? ⟨(E b).g, i, none⟩).isSome = true → (w'.cell? ⟨(E b).g, i, none⟩).isSome = true)
    (h3 : ∀ i, (w.cell? ⟨(E b).g, i, none⟩).isSome = true → w'.frozen? ⟨(E b).g, i, none⟩ = w.frozen? ⟨(E b).g, i, none⟩) : RowR G B z m E' w' b own cs := by
  have e := hE b h.lt
  refine ⟨by have := h.lt; omega, ?_, by rw [e]; exact h.ro, ?_⟩
  · intro i v hi
    obtain ⟨u, k1, k2⟩ := h.cell i v hi
    have hl : i < cs.length := by
      rcases Nat.lt_or_ge i cs.length with hl | hl
      · exact hl
      · rw [List.getElem?_eq_none hl] at hi; cases hi
    exact ⟨u, by rw [e, h1 i hl]; exact k1, k2.mono hn hE⟩
  · intro ho
    obtain ⟨k1, k2, k3⟩ := h.own ho
    rw [e]
    refine ⟨k1, k2, fun i hi => ?_⟩
    have := k3 i hi
    exact ⟨h2 _ this.1, by rw [h3 _ this.1]; exact this.2⟩
/-- The heap with one row more, of a new family or of one that is there. -/
def AHeap.add (H : AHeap) (f : Nat) (alt : Option Nat) (cells : List AV) : AHeap :=
  { next := H.next + 1, blk := upd H.blk H.next (some (.row f cells)), fam := upd H.fam f (some (H.next, alt)), typ := H.typ }
theorem new_eq_add (H : AHeap) (cells : List AV) : H.new cells = H.add H.next none cells := rfl
theorem share_eq_add (H : AHeap) (f b : Nat) (full : Bool) (cells : List AV) : H.share f b full cells = H.add f (if full then some b else none) cells := rfl
theorem add_row_new (H : AHeap) (f : Nat) (alt : Option Nat) (cells : List AV) : (H.add f alt cells).row H.next = some (f, cells) := by
  simp [AHeap.row, AHeap.add]
/-- What is still to be read behind it. -/
theorem add_row_old {H : AHeap} {f : Nat} {alt : Option Nat} {cells : List AV} {c f' : Nat} {cs' : List AV} (hc : c ≠ H.next)
    (halt : ∀ b, alt = some b → ∃ cs1, H.row b = some (f, cs1))
    (h : (H.add f alt cells).row c = some (f', cs')) : H.row c = some (f', cs') ∧ (f' ≠ f ∨ alt = some c) := by
  have hb : H.blk c = some (.row f' cs') := by
    have := row_blk h
    simp only [AHeap.add] at this
    rwa [upd_ne _ _ _ hc] at this
  by_cases hf : f' = f
  · subst hf
    have : alt = some c := by
      have h' := h
      simp only [AHeap.row, AHeap.add, upd_ne _ _ _ hc, hb, upd_same] at h'
      split at h'
      · rename_i h2
        rcases h2 with h2 | h2
        · exact absurd h2.symm hc
        · exact h2
      · cases h'
    obtain ⟨cs1, h1⟩ := halt c this
    have h2 := row_blk h1
    rw [hb] at h2
    simp at h2
    refine ⟨by rw [h1, h2], .inr this⟩
  · refine ⟨?_, .inl hf⟩
    have h' := h
    simp only [AHeap.row, AHeap.add, upd_ne _ _ _ hc, hb, upd_ne _ _ _ hf] at h'
    simp only [AHeap.row, hb]
    exact h'
theorem ext_upd (n : Nat) (E : Nat → Ent) (e : Ent) : Ext n E (upd E n e) := fun b hb => upd_ne _ _ _ (by omega)
/-- One row more: the general law. -/
theorem HRel.add {B : Prot} {w0 : Base} {w w' : World} {E : Nat → Ent} {H : AHeap} (h : HRel G B w0 E H w) (f : Nat) (alt : Option Nat) (cells : List AV) (ent : Ent)
    (hf : f = H.next ∨ ((H.fam f).isSome = true ∧ f < H.next))
    (halt : ∀ b, alt = some b → ∃ cs1, H.row b = some (f, cs1))
    (hbel : Keep B w0 w') (hgrow : w.heap.size ≤ w'.heap.size) (hent : ent.g < w'.heap.size)
    (hnew : RowR G B w0.heap.size (H.next + 1) (upd E H.next ent) w' H.next true cells)
    (hold : ∀ c f' cs', H.row c = some (f', cs') → (f' ≠ f ∨ alt = some c) →
      (∀ i, i < cs'.length → w'.cell? ⟨(E c).g, (E c).o + i, none⟩ = w.cell? ⟨(E c).g, (E c).o + i, none⟩) ∧
      (∀ i, (w.cell? ⟨(E c).g, i, none⟩).isSome = true → (w'.cell? ⟨(E c).g, i, none⟩).isSome = true) ∧
      (∀ i, (w.cell? ⟨(E c).g, i, none⟩).isSome = true → w'.frozen? ⟨(E c).g, i, none⟩ = w.frozen? ⟨(E c).g, i, none⟩))
    (hmap : ∀ (k : Nat) x, NoCells x → w.heap[k]? = some x → w'.heap[k]? = some x)
    (hsep : ∀ c f' cs', H.row c = some (f', cs') → (H.fam f').isSome = true → f' ≠ f → (E c).g ≠ ent.g) (htk : TK w w') :
    HRel G B w0 (upd E H.next ent) (H.add f alt cells) w' := by
  have hE := ext_upd H.next E ent
  have hfam : ∀ f', f' ≠ f → (H.add f alt cells).fam f' = H.fam f' := fun f' hne => upd_ne _ _ _ hne
  have hfamf : (H.add f alt cells).fam f = some (H.next, alt) := upd_same _ _ _
  have hlt : ∀ c f' cs', H.row c = some (f', cs') → c < H.next := fun c f' cs' hc => h.blk_lt (row_blk hc)
  have hgE : ∀ c, c < H.next → upd E H.next ent c = E c := fun c hc => upd_ne _ _ _ (by omega)
  -- what a row of the new heap is
  have split : ∀ c f' cs', (H.add f alt cells).row c = some (f', cs') → (c = H.next ∧ f' = f ∧ cs' = cells) ∨ (c < H.next ∧ H.row c = some (f', cs') ∧ (f' ≠ f ∨ alt = some c)) := by
    intro c f' cs' hc
    by_cases e : c = H.next
    · subst e
      rw [add_row_new] at hc
      simp at hc
      exact .inl ⟨rfl, hc.1.symm, hc.2.symm⟩
    · have := add_row_old e halt hc
      exact .inr ⟨hlt _ _ _ this.1, this.1, this.2⟩
  have famsome : ∀ c f' cs', H.row c = some (f', cs') → (f' ≠ f ∨ alt = some c) → ((H.add f alt cells).fam f').isSome = (H.fam f').isSome := by
    intro c f' cs' hc hor
    by_cases e : f' = f
    · subst e
      rw [hfamf]
      rcases hf with rfl | ⟨h1, _⟩
      · exact absurd (h.famlt _ _ _ (row_blk hc)) (by omega)
      · rw [h1]; rfl
    · rw [hfam _ e]
  refine ⟨hbel, fun g hg => hbel.lt hg, ?_, ?_, ?_, ?_, ?_, ?_, ?_, ⟨Nat.le_succ_of_le h.fix.1, h.fix.2.trans hE h.fix.1⟩, h.typ1 hE htk⟩
  · intro c f' cs' hc
    rcases split _ _ _ hc with ⟨rfl, rfl, rfl⟩ | ⟨hl, hr, hor⟩
    · rw [hfamf]; exact hnew
    · have k := h.row _ _ _ hr
      obtain ⟨o1, o2, o3⟩ := hold _ _ _ hr hor
      rw [famsome _ _ _ hr hor]
      exact k.move (by show H.next ≤ H.next + 1; omega) hE o1 o2 o3
  · intro c hc
    by_cases e : c = H.next
    · subst e; rw [upd_same]; exact hent
    · have hl : c < H.next := by have : c < H.next + 1 := hc; omega
      rw [hgE c hl]; exact Nat.lt_of_lt_of_le (h.glt c hl) hgrow
  · intro c f' cs' d f'' cs'' hc hd o1 o2 hne
    rcases split _ _ _ hc with ⟨rfl, rfl, rfl⟩ | ⟨hl, hr, hor⟩
    · rcases split _ _ _ hd with ⟨rfl, rfl, _⟩ | ⟨hl', hr', hor'⟩
      · exact absurd rfl hne
      · rw [upd_same, hgE d hl']
        rw [famsome _ _ _ hr' hor'] at o2
        exact (hsep _ _ _ hr' o2 (Ne.symm hne)).symm
    · rcases split _ _ _ hd with ⟨rfl, rfl, _⟩ | ⟨hl', hr', hor'⟩
      · rw [upd_same, hgE c hl]
        rw [famsome _ _ _ hr hor] at o1
        exact hsep _ _ _ hr o1 hne
      · rw [hgE c hl, hgE d hl']
        rw [famsome _ _ _ hr hor] at o1
        rw [famsome _ _ _ hr' hor'] at o2
        exact h.sep _ _ _ _ _ _ hr hr' o1 o2 hne
  · intro c hc
    have hc' : H.next + 1 ≤ c := hc
    show upd H.blk H.next _ c = none
    rw [upd_ne _ _ _ (by omega)]; exact h.fresh c (by omega)
  · intro c f' cs' hc
    have hc' : upd H.blk H.next (some (.row f cells)) c = some (.row f' cs') := hc
    show f' < H.next + 1
    by_cases e : c = H.next
    · subst e; rw [upd_same] at hc'; simp at hc'
      rcases hf with rfl | ⟨_, h2⟩
      · omega
      · omega
    · rw [upd_ne _ _ _ e] at hc'
      have := h.famlt _ _ _ hc'
      omega
  · intro m o hm ho
    have hm' : upd H.blk H.next (some (.row f cells)) m = some o := hm
    have e : m ≠ H.next := by intro e; subst e; rw [upd_same] at hm'; simp at hm'; subst hm'; cases ho
    rw [upd_ne _ _ _ e] at hm'
    obtain ⟨k1, k2, k3, x, k4, k5⟩ := h.obj m o hm' ho
    rw [hgE m k1]
    exact ⟨by show m < H.next + 1; omega, k2, k3, x, hmap _ _ k5.noCells k4, k5.mono (by show H.next ≤ H.next + 1; omega) hE⟩
  · intro m o m' o' hm hm' ho ho' w1 w2 hne
    have q1 : upd H.blk H.next (some (.row f cells)) m = some o := hm
    have q2 : upd H.blk H.next (some (.row f cells)) m' = some o' := hm'
    have e1 : m ≠ H.next := by intro e; subst e; rw [upd_same] at q1; simp at q1; subst q1; cases ho
    have e2 : m' ≠ H.next := by intro e; subst e; rw [upd_same] at q2; simp at q2; subst q2; cases ho'
    rw [upd_ne _ _ _ e1] at q1
    rw [upd_ne _ _ _ e2] at q2
    rw [hgE m (h.blk_lt q1), hgE m' (h.blk_lt q2)]
    exact h.sepm _ _ _ _ q1 q2 ho ho' w1 w2 hne
/-! ### A new row -/
theorem cell_alloc_lt {w : World} {x : Obj} {g i : Nat} (hg : g < w.heap.size) : (w.alloc x).cell? ⟨g, i, none⟩ = w.cell? ⟨g, i, none⟩ := World.cell?_of_block (Below.heap_alloc w x g hg)
theorem frozen_alloc_lt {w : World} {x : Obj} {g i : Nat} (hg : g < w.heap.size) : (w.alloc x).frozen? ⟨g, i, none⟩ = w.frozen? ⟨g, i, none⟩ := World.frozen?_of_block (Below.heap_alloc w x g hg)
theorem heap_alloc_at (w : World) (x : Obj) : (w.alloc x).heap[w.heap.size]? = some x := by
  show (w.heap.push x)[w.heap.size]? = _
  rw [Array.getElem?_push, if_pos rfl]
/-- Into a new block: of a new family, or of a slice that had no room. -/
theorem HRel.fresh_add {B : Prot} {w0 : Base} {w : World} {E : Nat → Ent} {H : AHeap} (h : HRel G B w0 E H w) (f : Nat) (alt : Option Nat) (cells : List AV)
    (hf : f = H.next ∨ ((H.fam f).isSome = true ∧ f < H.next))
    (halt : ∀ b, alt = some b → ∃ cs1, H.row b = some (f, cs1))
    (us rest : List Value) (hv : VRs G H.next E cells us) (C : Nat) (hC : us.length ≤ C) (hC' : C ≤ us.length + rest.length) (e : TypeId) (fr : Nat × Nat) (hfr : C ≤ fr.1 ∨ fr.2 = 0) :
    HRel G B w0 (upd E H.next ⟨w.heap.size, 0, C⟩) (H.add f alt cells) (w.alloc (.cells (us ++ rest).toArray e fr)) := by
  have hs : (w.alloc (.cells (us ++ rest).toArray e fr)).heap.size = w.heap.size + 1 := by show (w.heap.push _).size = _; simp
  have hat := heap_alloc_at w (.cells (us ++ rest).toArray e fr)
  have hcell : ∀ i, (w.alloc (.cells (us ++ rest).toArray e fr)).cell? ⟨w.heap.size, i, none⟩ = (us ++ rest)[i]? := fun i => by simp only [World.cell?, hat]; simp
  refine h.add f alt cells _ hf halt (h.below.alloc _) (by rw [hs]; omega) (by rw [hs]; show w.heap.size < w.heap.size + 1; omega) ?_ ?_ ?_ ?_ (TK.alloc _ _)
  · refine ⟨by omega, ?_, fun q => (by cases q), fun _ => ?_⟩
    · intro i v hi
      rw [upd_same]
      obtain ⟨u, h1, h2⟩ := hv.get i v hi
      refine ⟨u, ?_, h2.mono (by omega) (ext_upd _ _ _)⟩
      show World.cell? _ ⟨w.heap.size, 0 + i, none⟩ = _
      rw [Nat.zero_add, hcell, List.getElem?_append_left]
      · exact h1
      · exact (List.getElem?_eq_some_iff.1 h1).1
    · rw [upd_same]
      refine ⟨h.free, by have := hv.length; show cells.length ≤ C; omega, fun i hi => ?_⟩
      have hi' : i < C := hi
      show (World.cell? _ ⟨w.heap.size, 0 + i, none⟩).isSome = true ∧ World.frozen? _ ⟨w.heap.size, 0 + i, none⟩ = false
      rw [Nat.zero_add, hcell]
      refine ⟨by rw [List.getElem?_eq_getElem (by rw [List.length_append]; omega)]; rfl, ?_⟩
      simp only [World.frozen?, hat]
      obtain ⟨lo, hi2⟩ := fr
      simp only [Bool.and_eq_false_iff, decide_eq_false_iff_not]
      simp only at hfr
      omega
  · intro c f' cs' hc _
    have hg := h.glt c (h.blk_lt (row_blk hc))
    exact ⟨fun i _ => cell_alloc_lt hg, fun i hi => by rw [cell_alloc_lt hg]; exact hi, fun i _ => frozen_alloc_lt hg⟩
  · intro k x _ hk
    have : k < w.heap.size := (Array.getElem?_eq_some_iff.1 hk).1
    rw [Below.heap_alloc _ _ _ this]; exact hk
  · intro c f' cs' hc _ _ he
    have hg := h.glt c (h.blk_lt (row_blk hc))
    have he' : (E c).g = w.heap.size := he
    omega
theorem HRel.new {B : Prot} {w0 : Base} {w : World} {E : Nat → Ent} {H : AHeap} (h : HRel G B w0 E H w) (cells : List AV)
    (us rest : List Value) (hv : VRs G H.next E cells us) (C : Nat) (hC : us.length ≤ C) (hC' : C ≤ us.length + rest.length) (e : TypeId) (fr : Nat × Nat) (hfr : C ≤ fr.1 ∨ fr.2 = 0) :
    HRel G B w0 (upd E H.next ⟨w.heap.size, 0, C⟩) (H.new cells) (w.alloc (.cells (us ++ rest).toArray e fr)) := by
  rw [new_eq_add]
  exact h.fresh_add H.next none cells (.inl rfl) (fun b hb => by cases hb) us rest hv C hC hC' e fr hfr
/-! ### A load -/
theorem HRel.ld {B : Prot} {w0 : Base} {w : World} {E : Nat → Ent} {H : AHeap} (h : HRel G B w0 E H w) {b off n : Nat} {cs : List AV} (hl : H.ld b off n = some cs) :
    cs.length = n ∧ b < H.next ∧ ∃ us, VRs G H.next E cs us ∧ ∀ (j : Nat) u, us[j]? = some u → w.cell? ⟨(E b).g, (E b).o + off + j, none⟩ = some u := by
  unfold AHeap.ld at hl
  cases hr : H.row b with
  | none => rw [hr] at hl; cases hl
  | some p =>
    obtain ⟨f, all⟩ := p
    rw [hr] at hl
    simp only at hl
    split at hl
    · rename_i hlen
      simp at hl
      have k := h.row _ _ _ hr
      have hcl : cs.length = n := by rw [← hl, List.length_take, List.length_drop]; omega
      have hget : ∀ i, i < n → cs[i]? = all[off + i]? := by
        intro i hi
        rw [← hl, List.getElem?_take, if_pos hi, List.getElem?_drop]
      refine ⟨hcl, k.lt, (List.range n).map (fun i => (w.cell? ⟨(E b).g, (E b).o + off + i, none⟩).getD Go.undef), VRs.of_get (by simp [hcl]) ?_, ?_⟩
      · intro i a ha
        have hi : i < n := by rw [← hcl]; exact (List.getElem?_eq_some_iff.1 ha).1
        rw [hget i hi] at ha
        obtain ⟨u, h1, h2⟩ := k.cell _ _ ha
        refine ⟨u, ?_, h2⟩
        rw [List.getElem?_map, List.getElem?_range hi, Option.map_some, Nat.add_assoc, h1]; rfl
      · intro j u hu
        have hj : j < n := by have := (List.getElem?_eq_some_iff.1 hu).1; simpa using this
        have ha : cs[j]? = some (cs[j]'(by omega)) := List.getElem?_eq_getElem _
        rw [hget j hj] at ha
        obtain ⟨u', h1, h2⟩ := k.cell _ _ ha
        rw [List.getElem?_map, List.getElem?_range hj, Option.map_some, Nat.add_assoc, h1] at hu
        simp at hu
        rw [Nat.add_assoc, h1, hu]
    · cases hl
/-! ### A store -/
theorem st_row {H H' : AHeap} {b off : Nat} {vs : List AV} (hs : H.st b off vs = some H') : ∃ f cs, H.row b = some (f, cs) ∧ (H.fam f).isSome = true ∧ off + vs.length ≤ cs.length ∧ vs.all AV.cell = true ∧
    H' = { H with blk := upd H.blk b (some (.row f (splice cs off vs))), fam := upd H.fam f (some (b, none)) } := by
  unfold AHeap.st at hs
  cases hr : H.row b with
  | none => rw [hr] at hs; cases hs
  | some p =>
    obtain ⟨f, cs⟩ := p
    rw [hr] at hs
    simp only at hs
    split at hs
    · rename_i hc
      simp at hs
      exact ⟨f, cs, rfl, hc.1, hc.2.1, hc.2.2, hs.symm⟩
    · cases hs
theorem splice_length {cs vs : List AV} {off : Nat} (h : off + vs.length ≤ cs.length) : (splice cs off vs).length = cs.length := by
  simp [splice]; omega
theorem splice_get {cs vs : List AV} {off : Nat} (h : off + vs.length ≤ cs.length) (i : Nat) : (splice cs off vs)[i]? = if i < off then cs[i]? else if i < off + vs.length then vs[i - off]? else cs[i]? := by
  unfold splice
  have hl : (cs.take off).length = off := by rw [List.length_take]; omega
  by_cases h1 : i < off
  · rw [if_pos h1, List.append_assoc, List.getElem?_append_left (by omega), List.getElem?_take, if_pos h1]
  · rw [if_neg h1]
    by_cases h2 : i < off + vs.length
    · rw [if_pos h2, List.append_assoc, List.getElem?_append_right (by omega), hl, List.getElem?_append_left (by omega)]
    · rw [if_neg h2, List.getElem?_append_right (by rw [List.length_append]; omega), List.length_append, hl, List.getElem?_drop]
      congr 1
      omega
theorem HRel.st {B : Prot} {w0 : Base} {w : World} {E : Nat → Ent} {H H' : AHeap} (h : HRel G B w0 E H w) {b off : Nat} {vs : List AV} (hs : H.st b off vs = some H') {us : List Value} (hv : VRs G H.next E vs us) :
    b < H.next ∧ H'.next = H.next ∧ HRel G B w0 E H' (w.setCells (E b).g ((E b).o + off) us) ∧
    (∀ j, j < us.length → (w.cell? ⟨(E b).g, (E b).o + off + j, none⟩).isSome = true) ∧ (∀ j, j < us.length → w.frozen? ⟨(E b).g, (E b).o + off + j, none⟩ = false) ∧ (∀ u ∈ us, u.oneCell' = true) := by
  obtain ⟨f, cs, hr, hf, hlen, hcell, rfl⟩ := st_row hs
  have k := h.row _ _ _ hr
  rw [hf] at k
  obtain ⟨kB, kC, kown⟩ := k.own rfl
  have hul := hv.length
  have hin : ∀ j, j < us.length → (w.cell? ⟨(E b).g, (E b).o + off + j, none⟩).isSome = true ∧ w.frozen? ⟨(E b).g, (E b).o + off + j, none⟩ = false := fun j hj => by
    have := kown (off + j) (by omega)
    rwa [← Nat.add_assoc] at this
  have hlt : ∀ c f' cs', H.row c = some (f', cs') → c < H.next := fun c f' cs' hc => h.blk_lt (row_blk hc)
  refine ⟨k.lt, rfl, ?_, fun j hj => (hin j hj).1, fun j hj => (hin j hj).2, hv.oneCell hcell⟩
  -- what a row of the new heap is
  have split : ∀ c f' cs', AHeap.row { H with blk := upd H.blk b (some (.row f (splice cs off vs))), fam := upd H.fam f (some (b, none)) } c = some (f', cs') →
      (c = b ∧ f' = f ∧ cs' = splice cs off vs) ∨ (c ≠ b ∧ f' ≠ f ∧ H.row c = some (f', cs')) := by
    intro c f' cs' hc
    have hb := row_blk hc
    simp only at hb
    by_cases e : c = b
    · subst e
      rw [upd_same] at hb
      simp at hb
      exact .inl ⟨rfl, hb.1.symm, hb.2.symm⟩
    · rw [upd_ne _ _ _ e] at hb
      have hne : f' ≠ f := by
        intro e'
        subst e'
        simp only [AHeap.row, upd_ne _ _ _ e, hb, upd_same] at hc
        split at hc
        · rename_i h2
          rcases h2 with h2 | h2
          · exact e h2.symm
          · cases h2
        · cases hc
      refine .inr ⟨e, hne, ?_⟩
      simp only [AHeap.row, upd_ne _ _ _ e, hb, upd_ne _ _ _ hne] at hc
      simp only [AHeap.row, hb]
      exact hc
  have hout : ∀ x : Addr, x.block ≠ (E b).g → (w.setCells (E b).g ((E b).o + off) us).cell? x = w.cell? x := fun x hx => World.cell?_setCells_out _ _ _ _ _ (fun e => absurd e hx)
  have hgne : ∀ c f' cs', H.row c = some (f', cs') → f' ≠ f → (E c).g ≠ (E b).g := by
    intro c f' cs' hc hne
    have kc := h.row _ _ _ hc
    cases ho : (H.fam f').isSome with
    | true => exact h.sep _ _ _ _ _ _ hc hr ho hf hne
    | false => rw [ho] at kc; exact fun e => (kc.ro rfl).1 (by rw [e]; exact kB)
  refine ⟨below_setCells kB _ _ _ h.below, fun g hg => by rw [size_setCells]; exact h.size g hg, ?_, fun c hc => by rw [size_setCells]; exact h.glt c hc, ?_, ?_, ?_, ?_, ?_, h.fix, h.typ0 (Ext.refl _ _) (TK.setCells _ _ _ _)⟩
  · intro c f' cs' hc
    rcases split _ _ _ hc with ⟨rfl, rfl, rfl⟩ | ⟨hne, hfne, hr'⟩
    · show RowR G B w0.heap.size H.next E _ c (upd H.fam f' (some (c, none)) f').isSome _
      rw [upd_same]
      refine ⟨k.lt, ?_, fun q => (by cases q), fun _ => ⟨kB, by rw [splice_length hlen]; exact kC, fun i hi => ⟨isSome_setCells _ _ _ _ _ (kown i hi).1, by rw [World.frozen?_setCells]; exact (kown i hi).2⟩⟩⟩
      intro i v hi
      rw [splice_get hlen] at hi
      by_cases h1 : i < off
      · rw [if_pos h1] at hi
        obtain ⟨u, q1, q2⟩ := k.cell i v hi
        refine ⟨u, ?_, q2⟩
        rw [World.cell?_setCells_out _ _ _ _ _ (fun _ _ => Or.inl (by show (E c).o + i < (E c).o + off; omega))]; exact q1
      · rw [if_neg h1] at hi
        by_cases h2 : i < off + vs.length
        · rw [if_pos h2] at hi
          obtain ⟨u, q1, q2⟩ := hv.get _ _ hi
          have hj : i - off < us.length := (List.getElem?_eq_some_iff.1 q1).1
          have := World.cell?_setCells_in (E c).g us ((E c).o + off) w (fun j hj => (hin j hj).1) (i - off) hj
          rw [show (E c).o + off + (i - off) = (E c).o + i by omega] at this
          exact ⟨_, this, by rw [List.getElem?_eq_getElem hj] at q1; simp at q1; rw [q1]; exact q2⟩
        · rw [if_neg h2] at hi
          obtain ⟨u, q1, q2⟩ := k.cell i v hi
          refine ⟨u, ?_, q2⟩
          rw [World.cell?_setCells_out _ _ _ _ _ (fun _ _ => Or.inr (by show (E c).o + off + us.length ≤ (E c).o + i; omega))]; exact q1
    · show RowR G B w0.heap.size H.next E _ c (upd H.fam f (some (b, none)) f').isSome cs'
      rw [upd_ne _ _ _ hfne]
      have hg := hgne _ _ _ hr' hfne
      exact (h.row _ _ _ hr').move (Nat.le_refl _) (Ext.refl _ _) (fun i _ => hout _ hg) (fun i hi => by rw [hout _ hg]; exact hi) (fun i _ => World.frozen?_setCells _ _ _ _ _)
  · intro c f' cs' d f'' cs'' hc hd o1 o2 hne
    have o1' : (upd H.fam f (some (b, none)) f').isSome = true := o1
    have o2' : (upd H.fam f (some (b, none)) f'').isSome = true := o2
    rcases split _ _ _ hc with ⟨rfl, rfl, _⟩ | ⟨_, hf1, hr1⟩
    · rcases split _ _ _ hd with ⟨rfl, rfl, _⟩ | ⟨_, hf2, hr2⟩
      · exact absurd rfl hne
      · exact (hgne _ _ _ hr2 hf2).symm
    · rcases split _ _ _ hd with ⟨rfl, rfl, _⟩ | ⟨_, hf2, hr2⟩
      · exact hgne _ _ _ hr1 hf1
      · rw [upd_ne _ _ _ hf1] at o1'
        rw [upd_ne _ _ _ hf2] at o2'
        exact h.sep _ _ _ _ _ _ hr1 hr2 o1' o2' hne
  · intro c hc
    have hc' : H.next ≤ c := hc
    show upd H.blk b _ c = none
    rw [upd_ne _ _ _ (by have := k.lt; omega)]; exact h.fresh c hc'
  · intro c f' cs' hc
    have hc' : upd H.blk b (some (.row f (splice cs off vs))) c = some (.row f' cs') := hc
    by_cases e : c = b
    · subst e; rw [upd_same] at hc'; simp at hc'; rw [← hc'.1]; exact h.famlt _ _ _ (row_blk hr)
    · rw [upd_ne _ _ _ e] at hc'; exact h.famlt _ _ _ hc'
  · intro m o hm ho
    have hm' : upd H.blk b (some (.row f (splice cs off vs))) m = some o := hm
    have e : m ≠ b := by intro e; subst e; rw [upd_same] at hm'; simp at hm'; subst hm'; cases ho
    rw [upd_ne _ _ _ e] at hm'
    obtain ⟨k1, k2, k3, x, k4, k5⟩ := h.obj m o hm' ho
    exact ⟨k1, k2, k3, x, heap_setCells_obj k5.noCells _ _ _ _ k4, k5⟩
  · intro m o m' o' hm hm' ho ho' w1 w2 hne
    have q1 : upd H.blk b (some (.row f (splice cs off vs))) m = some o := hm
    have q2 : upd H.blk b (some (.row f (splice cs off vs))) m' = some o' := hm'
    have e1 : m ≠ b := by intro e; subst e; rw [upd_same] at q1; simp at q1; subst q1; cases ho
    have e2 : m' ≠ b := by intro e; subst e; rw [upd_same] at q2; simp at q2; subst q2; cases ho'
    rw [upd_ne _ _ _ e1] at q1
    rw [upd_ne _ _ _ e2] at q2
    exact h.sepm _ _ _ _ q1 q2 ho ho' w1 w2 hne
/-! ### An append into the room that there is -/
theorem HRel.room {B : Prot} {w0 : Base} {w : World} {E : Nat → Ent} {H : AHeap} (h : HRel G B w0 E H w) {f b off k : Nat} {cs : List AV} (hr : H.row b = some (f, cs)) (hf : (H.fam f).isSome = true)
    (hk : off + k ≤ cs.length) (news : List AV) (hroom : off + k + news.length ≤ (E b).C) {us : List Value} (hv : VRs G H.next E news us) :
    HRel G B w0 (upd E H.next ⟨(E b).g, (E b).o + off, (E b).C - off⟩) (H.share f b (decide (off + k = cs.length)) ((cs.drop off).take k ++ news)) (w.setCells (E b).g ((E b).o + off + k) us) ∧
    (∀ j, j < us.length → (w.cell? ⟨(E b).g, (E b).o + off + k + j, none⟩).isSome = true) ∧ (∀ j, j < us.length → w.frozen? ⟨(E b).g, (E b).o + off + k + j, none⟩ = false) := by
  have q := h.row _ _ _ hr
  rw [hf] at q
  obtain ⟨kB, kC, kown⟩ := q.own rfl
  have hul := hv.length
  have hin : ∀ j, j < us.length → (w.cell? ⟨(E b).g, (E b).o + off + k + j, none⟩).isSome = true ∧ w.frozen? ⟨(E b).g, (E b).o + off + k + j, none⟩ = false := fun j hj => by
    have := kown (off + k + j) (by omega)
    rwa [show (E b).o + (off + k + j) = (E b).o + off + k + j by omega] at this
  refine ⟨?_, fun j hj => (hin j hj).1, fun j hj => (hin j hj).2⟩
  have hb := h.blk_lt (row_blk hr)
  have holdl : ((cs.drop off).take k).length = k := by rw [List.length_take, List.length_drop]; omega
  rw [share_eq_add]
  refine h.add f _ _ _ (.inr ⟨hf, h.famlt _ _ _ (row_blk hr)⟩) ?_ (below_setCells kB _ _ _ h.below) (by rw [size_setCells]; exact Nat.le_refl _) (by rw [size_setCells]; exact h.glt b hb) ?_ ?_ (fun _ _ hx hm => heap_setCells_obj hx _ _ _ _ hm) ?_ (TK.setCells _ _ _ _)
  · intro b' hb'
    split at hb'
    · simp at hb'; subst hb'; exact ⟨_, hr⟩
    · cases hb'
  · refine ⟨by omega, ?_, fun q => (by cases q), fun _ => ?_⟩
    · intro i v hi
      rw [upd_same]
      show ∃ u, World.cell? _ ⟨(E b).g, (E b).o + off + i, none⟩ = some u ∧ _
      by_cases h1 : i < k
      · rw [List.getElem?_append_left (by omega), List.getElem?_take, if_pos h1, List.getElem?_drop] at hi
        obtain ⟨u, q1, q2⟩ := q.cell _ _ hi
        refine ⟨u, ?_, q2.mono (by omega) (ext_upd _ _ _)⟩
        rw [World.cell?_setCells_out _ _ _ _ _ (fun _ _ => Or.inl (by show (E b).o + off + i < (E b).o + off + k; omega)), show (E b).o + off + i = (E b).o + (off + i) by omega]; exact q1
      · rw [List.getElem?_append_right (by omega), holdl] at hi
        obtain ⟨u, q1, q2⟩ := hv.get _ _ hi
        have hj : i - k < us.length := (List.getElem?_eq_some_iff.1 q1).1
        have := World.cell?_setCells_in (E b).g us ((E b).o + off + k) w (fun j hj => (hin j hj).1) (i - k) hj
        rw [show (E b).o + off + k + (i - k) = (E b).o + off + i by omega] at this
        exact ⟨_, this, by rw [List.getElem?_eq_getElem hj] at q1; simp at q1; rw [q1]; exact q2.mono (by omega) (ext_upd _ _ _)⟩
    · rw [upd_same]
      refine ⟨kB, by rw [List.length_append, holdl]; show k + news.length ≤ (E b).C - off; omega, fun i hi => ?_⟩
      have hi' : i < (E b).C - off := hi
      have := kown (off + i) (by omega)
      show (World.cell? _ ⟨(E b).g, (E b).o + off + i, none⟩).isSome = true ∧ World.frozen? _ ⟨(E b).g, (E b).o + off + i, none⟩ = false
      rw [show (E b).o + off + i = (E b).o + (off + i) by omega]
      exact ⟨isSome_setCells _ _ _ _ _ this.1, by rw [World.frozen?_setCells]; exact this.2⟩
  · intro c f' cs' hc hor
    have kc := h.row _ _ _ hc
    by_cases hcb : c = b
    · subst hcb
      refine ⟨fun i hi => ?_, fun i hi => isSome_setCells _ _ _ _ _ hi, fun i _ => World.frozen?_setCells _ _ _ _ _⟩
      rw [hr] at hc
      simp at hc
      rcases hor with hor | hor
      · exact absurd hc.1.symm hor
      · split at hor
        · rename_i hd
          simp at hd
          rw [← hc.2] at hi
          exact World.cell?_setCells_out _ _ _ _ _ (fun _ _ => Or.inl (by show (E c).o + i < (E c).o + off + k; omega))
        · cases hor
    · have hfne : f' ≠ f := by
        rcases hor with hor | hor
        · exact hor
        · split at hor
          · simp at hor; exact absurd hor.symm hcb
          · cases hor
      have hg : (E c).g ≠ (E b).g := by
        cases ho : (H.fam f').isSome with
        | true => exact h.sep _ _ _ _ _ _ hc hr ho hf hfne
        | false => rw [ho] at kc; exact fun e => (kc.ro rfl).1 (by rw [e]; exact kB)
      have hout : ∀ i, (w.setCells (E b).g ((E b).o + off + k) us).cell? ⟨(E c).g, i, none⟩ = w.cell? ⟨(E c).g, i, none⟩ := fun i => World.cell?_setCells_out _ _ _ _ _ (fun e => absurd e hg)
      exact ⟨fun i _ => hout _, fun i hi => by rw [hout]; exact hi, fun i _ => World.frozen?_setCells _ _ _ _ _⟩
  · intro c f' cs' hc ho hfne
    exact h.sep _ _ _ _ _ _ hc hr ho hf hfne
end Go.Am
