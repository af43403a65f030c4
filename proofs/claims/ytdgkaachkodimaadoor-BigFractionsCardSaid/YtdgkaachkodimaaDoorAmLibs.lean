/- What the small machine's operations give, as rules that rewrite; slices that are read, slices that grow, and what of a heap is kept. -/
import Derived.Test.YtdgkaachkodimaaDoorAmWp
set_option linter.unusedVariables false
set_option linter.unusedSimpArgs false
namespace Go.Am
/-! ### Operations -/
section
variable {k l : IntKind} {a b : Int}
@[simp] theorem psem_mv {v : AV} : psem .mv [v] = some v := rfl
@[simp] theorem psem_lit {v : AV} : psem (.lit v) [] = some v := rfl
@[simp] theorem psem_pick {c : Bool} {u v : AV} : psem .pick [.bool c, u, v] = some (if c then u else v) := rfl
@[simp] theorem psem_add : psem (.bin .add) [.int k a, .int k b] = some (.int k (k.wrap (a + b))) := by simp [psem, binOp, intOp]
@[simp] theorem psem_sub : psem (.bin .sub) [.int k a, .int k b] = some (.int k (k.wrap (a - b))) := by simp [psem, binOp, intOp]
@[simp] theorem psem_mul : psem (.bin .mul) [.int k a, .int k b] = some (.int k (k.wrap (a * b))) := by simp [psem, binOp, intOp]
@[simp] theorem psem_quo : psem (.bin .quo) [.int k a, .int k b] = if b = 0 then none else some (.int k (k.wrap (a.tdiv b))) := by simp [psem, binOp, intOp]
@[simp] theorem psem_rem : psem (.bin .rem) [.int k a, .int k b] = if b = 0 then none else some (.int k (a.tmod b)) := by simp [psem, binOp, intOp]
@[simp] theorem psem_and : psem (.bin .and) [.int k a, .int k b] = some (.int k (k.wrap (BitVec.ofInt k.bits a &&& BitVec.ofInt k.bits b).toNat)) := by simp [psem, binOp, intOp]
@[simp] theorem psem_or : psem (.bin .or) [.int k a, .int k b] = some (.int k (k.wrap (BitVec.ofInt k.bits a ||| BitVec.ofInt k.bits b).toNat)) := by simp [psem, binOp, intOp]
@[simp] theorem psem_xor : psem (.bin .xor) [.int k a, .int k b] = some (.int k (k.wrap (BitVec.ofInt k.bits a ^^^ BitVec.ofInt k.bits b).toNat)) := by simp [psem, binOp, intOp]
@[simp] theorem psem_shl : psem (.bin .shl) [.int k a, .int l b] = if b < 0 then none else some (.int k (k.wrap (a * 2 ^ (Nat.min b.toNat k.bits)))) := by simp [psem, binOp, shiftOp]
@[simp] theorem psem_shr : psem (.bin .shr) [.int k a, .int l b] = if b < 0 then none else some (.int k (a.fdiv (2 ^ (Nat.min b.toNat k.bits)))) := by simp [psem, binOp, shiftOp]
@[simp] theorem psem_eql : psem (.bin .eql) [.int k a, .int k b] = some (.bool (decide (a = b))) := by simp [psem, binOp, intOp]; rfl
@[simp] theorem psem_neq : psem (.bin .neq) [.int k a, .int k b] = some (.bool (decide (a ≠ b))) := by simp [psem, binOp, intOp, bne]; rfl
@[simp] theorem psem_lss : psem (.bin .lss) [.int k a, .int k b] = some (.bool (decide (a < b))) := by simp [psem, binOp, intOp]
@[simp] theorem psem_leq : psem (.bin .leq) [.int k a, .int k b] = some (.bool (decide (a ≤ b))) := by simp [psem, binOp, intOp]
@[simp] theorem psem_gtr : psem (.bin .gtr) [.int k a, .int k b] = some (.bool (decide (b < a))) := by simp [psem, binOp, intOp]
@[simp] theorem psem_geq : psem (.bin .geq) [.int k a, .int k b] = some (.bool (decide (b ≤ a))) := by simp [psem, binOp, intOp]
@[simp] theorem psem_eqlS {s t : List UInt8} : psem (.bin .eql) [.str s, .str t] = some (.bool (decide (s = t))) := by
  simp [psem, binOp, strOp]
  by_cases h : s = t <;> simp [h]
@[simp] theorem psem_neqS {s t : List UInt8} : psem (.bin .neq) [.str s, .str t] = some (.bool (decide (s ≠ t))) := by
  simp [psem, binOp, strOp]
  by_cases h : s = t <;> simp [h]
@[simp] theorem psem_addS {s t : List UInt8} : psem (.bin .add) [.str s, .str t] = if ((s.length + t.length : Nat) : Int) > 2 ^ 62 then none else some (.str (s ++ t)) := rfl
@[simp] theorem psem_lssS {s t : List UInt8} : psem (.bin .lss) [.str s, .str t] = some (.bool (Op.bytesLess s t)) := rfl
@[simp] theorem psem_gtrS {s t : List UInt8} : psem (.bin .gtr) [.str s, .str t] = some (.bool (!(Op.bytesLess s t || s == t))) := rfl
@[simp] theorem psem_leqS {s t : List UInt8} : psem (.bin .leq) [.str s, .str t] = some (.bool (Op.bytesLess s t || s == t)) := rfl
@[simp] theorem psem_geqS {s t : List UInt8} : psem (.bin .geq) [.str s, .str t] = some (.bool (!Op.bytesLess s t)) := rfl
@[simp] theorem psem_eqB {neg x y : Bool} : psem (.eqB neg) [.bool x, .bool y] = some (.bool ((x == y) != neg)) := rfl
@[simp] theorem psem_nilS {neg : Bool} {p : Option (Nat × Nat)} {z n : Nat} {c : Option Nat} : psem (.isNil .slc neg) [.slc p z n c] = some (.bool (p.isNone != neg)) := rfl
@[simp] theorem psem_nilP {neg : Bool} {p : Option (Nat × Nat)} : psem (.isNil .ptr neg) [.ptr p] = some (.bool (p.isNone != neg)) := rfl
@[simp] theorem psem_nilM {neg : Bool} {p : Option Nat} : psem (.isNil .map neg) [.map p] = some (.bool (p.isNone != neg)) := rfl
@[simp] theorem psem_nilF {neg : Bool} {f : Nat} {x y : List AV} : psem (.isNil .fn neg) [.fn f x y] = some (.bool (false != neg)) := rfl
@[simp] theorem psem_nilF' {neg : Bool} : psem (.isNil .fn neg) [.nilFn] = some (.bool (true != neg)) := rfl
@[simp] theorem psem_eqCells {neg : Bool} {ks : List CK} {x y : List AV} : psem (.eqCells neg ks) [.agg x, .agg y] = match eqCells ks x y with | some r => some (.bool (r != neg)) | none => none := rfl
@[simp] theorem psem_not {x : Bool} : psem (.un .not) [.bool x] = some (.bool (!x)) := rfl
@[simp] theorem psem_neg : psem (.un .neg) [.int k a] = some (.int k (k.wrap (0 - a))) := rfl
@[simp] theorem psem_conv : psem (.conv k) [.int l a] = some (.int k (k.wrap a)) := rfl
@[simp] theorem psem_i2s : psem .i2s [.int l a] = some (.str (Utf8.encode a).data.toList) := rfl
@[simp] theorem psem_len {p : Option (Nat × Nat)} {z n : Nat} {c : Option Nat} : psem .len [.slc p z n c] = some (.int .i64 n) := rfl
@[simp] theorem psem_lenS {s : List UInt8} : psem .lenS [.str s] = some (.int .i64 s.length) := rfl
@[simp] theorem psem_max : psem .max [.int k a, .int l b] = some (.int k (max a b)) := by
  simp [psem, foldO, max2]
  split <;> omega
@[simp] theorem psem_min : psem .min [.int k a, .int l b] = some (.int k (min a b)) := by
  simp [psem, foldO, min2]
  split <;> omega
@[simp] theorem psem_ext {i : Nat} {vs : List AV} : psem (.ext i) [.tup vs] = vs[i]? := rfl
@[simp] theorem psem_fld {off n : Nat} {cs : List AV} : psem (.fld off n false) [.agg cs] = cs[off]? := rfl
@[simp] theorem psem_fldA {off n : Nat} {cs : List AV} : psem (.fld off n true) [.agg cs] = if off + n ≤ cs.length then some (.agg ((cs.drop off).take n)) else none := rfl
@[simp] theorem psem_idxA {n z : Nat} {cs : List AV} : psem (.idxA n z false) [.agg cs, .int k a] = if 0 ≤ a ∧ a < n then cs[a.toNat * z]? else none := rfl
/-- The element at a place. -/
def nth {α : Type} [Inhabited α] (l : List α) (i : Int) : α := l.getD i.toNat default
@[simp] theorem psem_idxS {s : List UInt8} : psem .idxS [.str s, .int k a] = if 0 ≤ a ∧ a < s.length then some (.int .u8 (nth s a).toNat) else none := by
  simp only [psem]
  by_cases h : 0 ≤ a
  · by_cases h2 : a < s.length
    · rw [if_pos h, if_pos ⟨h, h2⟩]
      have h3 : a.toNat < s.length := by omega
      simp [nth, List.getElem?_eq_getElem h3]
    · rw [if_pos h, if_neg (by omega)]
      have h3 : s.length ≤ a.toNat := by omega
      simp [List.getElem?_eq_none h3]
  · rw [if_neg h, if_neg (by omega)]
@[simp] theorem psem_slS {s : List UInt8} {i j : Int} : psem (.slS true true) [.str s, .int k i, .int l j] = if 0 ≤ i ∧ i ≤ j ∧ j ≤ s.length then some (.str ((s.take j.toNat).drop i.toNat)) else none := by
  simp only [psem, sliceS, bound, natOf]
  by_cases h : 0 ≤ i <;> by_cases h2 : 0 ≤ j <;> simp [h, h2]
  · by_cases h3 : i ≤ j <;> by_cases h4 : j ≤ s.length
    · rw [if_pos (by omega), if_pos (by omega)]
    · rw [if_neg (by omega), if_neg (by omega)]
    · rw [if_neg (by omega), if_neg (by omega)]
    · rw [if_neg (by omega), if_neg (by omega)]
  · omega
@[simp] theorem psem_slSl {s : List UInt8} {i : Int} : psem (.slS true false) [.str s, .int k i] = if 0 ≤ i ∧ i ≤ s.length then some (.str (s.drop i.toNat)) else none := by
  simp only [psem, sliceS, bound, natOf]
  by_cases h : 0 ≤ i <;> simp [h]
@[simp] theorem psem_slSh {s : List UInt8} {j : Int} : psem (.slS false true) [.str s, .int k j] = if 0 ≤ j ∧ j ≤ s.length then some (.str (s.take j.toNat)) else none := by
  simp only [psem, sliceS, bound, natOf]
  by_cases h : 0 ≤ j <;> simp [h]
@[simp] theorem psem_slSn {s : List UInt8} : psem (.slS false false) [.str s] = some (.str s) := by
  simp [psem, sliceS, bound]
@[simp] theorem psem_fa {o p q : Nat} : psem (.fa o) [.ptr (some (p, q))] = some (.ptr (some (p, q + o))) := rfl
@[simp] theorem psem_iap {n z p q : Nat} : psem (.iap n z) [.ptr (some (p, q)), .int k a] = if 0 ≤ a ∧ a < n then some (.ptr (some (p, q + a.toNat * z))) else none := rfl
@[simp] theorem psem_mkF {f n : Nat} {vs : List AV} : psem (.mkF f n) vs = some (.fn f (vs.take n) (vs.drop n)) := by cases vs <;> rfl
@[simp] theorem psem_dfr1 {f : Nat} {x y vs : List AV} : psem .dfr (.undef :: .fn f x y :: vs) = some (.tup [.fn f (x ++ vs) y]) := rfl
@[simp] theorem psem_dfr {f : Nat} {x y vs ds : List AV} : psem .dfr (.tup ds :: .fn f x y :: vs) = some (.tup (.fn f (x ++ vs) y :: ds)) := rfl
@[simp] theorem psem_eqP1 {neg : Bool} {q : Option (Nat × Nat)} : psem (.eqP neg) [.ptr none, .ptr q] = some (.bool (q.isNone != neg)) := rfl
@[simp] theorem psem_eqP2 {neg : Bool} {q : Nat × Nat} : psem (.eqP neg) [.ptr (some q), .ptr none] = some (.bool (false != neg)) := rfl
@[simp] theorem psem_nilCp {p q : Nat} : psem .nilC [.ptr (some (p, q))] = some (.ptr (some (p, q))) := rfl
@[simp] theorem psem_nilCf {f : Nat} {x y : List AV} : psem .nilC [.fn f x y] = some (.fn f x y) := rfl
@[simp] theorem put_some {e : Env} {d : Nat} {v : AV} : e.put (some d) v = upd e d v := rfl
@[simp] theorem put_none {e : Env} {v : AV} : e.put none v = e := rfl
@[simp] theorem ev_t {e : Env} {i : Nat} : e.ev (.t i) = e i := rfl
@[simp] theorem ev_c {e : Env} {v : AV} : e.ev (.c v) = v := rfl
@[simp] theorem upd_app {α : Type} {f : Nat → α} {i j : Nat} {x : α} : upd f i x j = if j = i then x else f j := rfl
end
theorem wrap64 {n : Int} (h0 : -9223372036854775808 ≤ n) (h1 : n < 9223372036854775808) : IntKind.i64.wrap n = n := by
  simp [IntKind.wrap, IntKind.bits, IntKind.signed]; omega
theorem take_nth {α : Type} [Inhabited α] {l : List α} {j : Nat} (h : j < l.length) : l.take (j + 1) = l.take j ++ [nth l j] := by
  rw [List.take_succ_eq_append_getElem h]
  simp [nth, List.getElem?_eq_getElem h]
/-! ### Heaps that are well formed, and what is kept of them -/
structure WF (H : AHeap) : Prop where
  blk : ∀ b, H.next ≤ b → H.blk b = none
  fam : ∀ b f cs, H.blk b = some (.row f cs) → f < H.next
theorem AHeap.row_blk {H : AHeap} {b f : Nat} {cs : List AV} (h : H.row b = some (f, cs)) : H.blk b = some (.row f cs) := by
  unfold AHeap.row at h
  split at h
  · rename_i g ds hb
    split at h
    · simp at h; rw [hb, h.1, h.2]
    · split at h
      · simp at h; rw [hb, h.1, h.2]
      · cases h
  · cases h
theorem WF.row_fam {H : AHeap} (hw : WF H) {b f : Nat} {cs : List AV} (h : H.row b = some (f, cs)) : f < H.next := hw.fam b f cs (H.row_blk h)
theorem WF.row_lt {H : AHeap} (hw : WF H) {b f : Nat} {cs : List AV} (h : H.row b = some (f, cs)) : b < H.next := by
  have h1 := H.row_blk h
  by_cases h2 : b < H.next
  · exact h2
  · rw [hw.blk b (by omega)] at h1; cases h1
structure Keeps (D : Nat → Prop) (H H' : AHeap) : Prop where
  next : H.next ≤ H'.next
  row : ∀ b f cs, H.row b = some (f, cs) → ¬D f → H'.row b = some (f, cs)
  fam : ∀ f, f < H.next → ¬D f → (H'.fam f).isSome = (H.fam f).isSome
  obj : ∀ m o, H.blk m = some o → o.isRow = false → ¬D m → H'.blk m = some o
  typ : ∀ b, b < H.next → H'.typ b = H.typ b
theorem Keeps.refl {D : Nat → Prop} {H : AHeap} : Keeps D H H := ⟨Nat.le_refl _, fun _ _ _ h _ => h, fun _ _ _ => rfl, fun _ _ h _ _ => h, fun _ _ => rfl⟩
theorem Keeps.trans {D : Nat → Prop} {H H1 H2 : AHeap} (h : Keeps D H H1) (k : Keeps D H1 H2) : Keeps D H H2 :=
  ⟨Nat.le_trans h.next k.next, fun b f cs q d => k.row b f cs (h.row b f cs q d) d, fun f q d => (k.fam f (Nat.lt_of_lt_of_le q h.next) d).trans (h.fam f q d), fun m o q r d => k.obj m o (h.obj m o q r d) r d, fun b hb => (k.typ b (Nat.lt_of_lt_of_le hb h.next)).trans (h.typ b hb)⟩
theorem Keeps.mono {D D' : Nat → Prop} {H H1 : AHeap} (h : Keeps D H H1) (k : ∀ f, D f → D' f) : Keeps D' H H1 :=
  ⟨h.next, fun b f cs q d => h.row b f cs q fun c => d (k _ c), fun f q d => h.fam f q fun c => d (k _ c), fun m o q r d => h.obj m o q r fun c => d (k _ c), h.typ⟩
/-- Nothing that was there is changed. -/
structure Fr (H H' : AHeap) : Prop where
  wf : WF H'
  keeps : Keeps (H.next ≤ ·) H H'
theorem Fr.refl {H : AHeap} (h : WF H) : Fr H H := ⟨h, .refl⟩
theorem Fr.next {H H' : AHeap} (h : Fr H H') : H.next ≤ H'.next := h.keeps.next
theorem Fr.step {D : Nat → Prop} {H0 H H' : AHeap} (h : Fr H0 H) (hw : WF H') (k : Keeps D H H') (hd : ∀ f, D f → H0.next ≤ f) : Fr H0 H' :=
  ⟨hw, h.keeps.trans (k.mono hd)⟩
theorem Fr.trans {H H1 H2 : AHeap} (h : Fr H H1) (k : Fr H1 H2) : Fr H H2 := h.step k.wf k.keeps fun f q => Nat.le_trans h.next q
theorem WF.new {H : AHeap} (hw : WF H) {cs : List AV} : WF (H.new cs) := by
  constructor
  · intro b hb
    show upd H.blk H.next _ b = none
    have hb : H.next + 1 ≤ b := hb
    rw [upd_ne _ _ _ (by omega)]
    exact hw.blk b (by omega)
  · intro b f ds h
    show f < H.next + 1
    have h : upd H.blk H.next (some (.row H.next cs)) b = _ := h
    by_cases hb : b = H.next
    · subst hb; rw [upd_same] at h; simp at h; omega
    · rw [upd_ne _ _ _ hb] at h; have := hw.fam b f ds h; omega
theorem row_new_same {H : AHeap} {cs : List AV} : (H.new cs).row H.next = some (H.next, cs) := by
  simp [AHeap.row, AHeap.new]
theorem row_of {H H' : AHeap} {b f : Nat} {cs : List AV} (h : H.row b = some (f, cs)) (h1 : H'.blk b = H.blk b) (h2 : H'.fam f = H.fam f) : H'.row b = some (f, cs) := by
  have h3 := H.row_blk h
  unfold AHeap.row at h ⊢
  rw [h3] at h
  rw [h1, h3]
  simp only [h2] at h ⊢
  exact h
theorem WF.keeps_new {H : AHeap} (hw : WF H) {cs : List AV} {D : Nat → Prop} : Keeps D H (H.new cs) := by
  constructor
  · exact Nat.le_succ _
  · intro b f ds h _
    have h1 := hw.row_lt h
    have h2 := hw.row_fam h
    exact row_of h (upd_ne _ _ _ (by omega)) (upd_ne _ _ _ (by omega))
  · intro f hf _
    show (upd H.fam H.next _ f).isSome = _
    rw [upd_ne _ _ _ (by omega)]
  · intro m o h hro _
    show upd H.blk H.next _ m = _
    have : m ≠ H.next := by
      rintro rfl
      rw [hw.blk _ (Nat.le_refl _)] at h; cases h
    rw [upd_ne _ _ _ this]; exact h
  · exact fun _ _ => rfl
theorem WF.fr_new {H : AHeap} (hw : WF H) {cs : List AV} : Fr H (H.new cs) := ⟨hw.new, hw.keeps_new⟩
/-! ### Slices -/
section
variable {α : Type} {enc : α → AV} {sz : Nat}
/-- A slice that is read. -/
def Sl (enc : α → AV) (sz : Nat) (H : AHeap) (v : AV) (l : List α) : Prop :=
  (∀ x ∈ l, (enc x).cells.length = sz) ∧ ∃ (p : Option (Nat × Nat)) (sv : Nat) (cap : Option Nat), v = .slc p sv l.length cap ∧ (∀ c, cap = some c → l.length ≤ c) ∧
    match p with
    | none => l = []
    | some (b, off) => sv = sz ∧ ∃ f cs, H.row b = some (f, cs) ∧ off + l.length * sz ≤ cs.length ∧ (cs.drop off).take (l.length * sz) = l.flatMap fun x => (enc x).cells
/-- A slice's family: none of a nil slice; one that may still grow. -/
def FamOf (H : AHeap) (v : AV) (f : Option Nat) : Prop :=
  match v with
  | .slc none _ _ _ => f = none
  | .slc (some (b, _)) _ _ _ => ∃ g cs, H.row b = some (g, cs) ∧ f = some g ∧ (H.fam g).isSome = true
  | _ => False
def Own (enc : α → AV) (sz : Nat) (H : AHeap) (v : AV) (l : List α) (f : Option Nat) : Prop := Sl enc sz H v l ∧ FamOf H v f
theorem Sl.keeps {D : Nat → Prop} {H H' : AHeap} {v : AV} {l : List α} (h : Sl enc sz H v l) (k : Keeps D H H') (hd : ∀ b off sv n c f cs, v = .slc (some (b, off)) sv n c → H.row b = some (f, cs) → ¬D f) : Sl enc sz H' v l := by
  obtain ⟨h0, p, sv, cap, rfl, h1, h2⟩ := h
  refine ⟨h0, p, sv, cap, rfl, h1, ?_⟩
  cases p with
  | none => exact h2
  | some q =>
    obtain ⟨b, off⟩ := q
    obtain ⟨h3, f, cs, h4, h5⟩ := h2
    exact ⟨h3, f, cs, k.row b f cs h4 (hd b off sv _ cap f cs rfl h4), h5⟩
theorem Sl.fr {H H' : AHeap} {v : AV} {l : List α} (h : Sl enc sz H v l) (hw : WF H) (k : Fr H H') : Sl enc sz H' v l :=
  h.keeps k.keeps fun b off sv n c f cs _ hr => by have := hw.row_fam hr; omega
theorem FamOf.lt {H : AHeap} (hw : WF H) {v : AV} {f : Nat} (h : FamOf H v (some f)) : f < H.next := by
  unfold FamOf at h
  split at h
  · cases h
  · obtain ⟨g, cs, h1, h2, _⟩ := h
    cases h2
    exact hw.row_fam h1
  · exact h.elim
theorem Own.sl {H : AHeap} {v : AV} {l : List α} {f : Option Nat} (h : Own enc sz H v l f) : Sl enc sz H v l := h.1
theorem Own.keeps {D : Nat → Prop} {H H' : AHeap} {v : AV} {l : List α} {f : Option Nat} (h : Own enc sz H v l f) (hw : WF H) (k : Keeps D H H') (hd : ∀ g, f = some g → ¬D g) : Own enc sz H' v l f := by
  obtain ⟨h1, h2⟩ := h
  have hd' : ∀ b off sv n c g cs, v = .slc (some (b, off)) sv n c → H.row b = some (g, cs) → ¬D g := by
    intro b off sv n c g cs e hr
    subst e
    obtain ⟨g', cs', q1, q2, _⟩ := h2
    rw [q1] at hr; cases hr
    exact hd _ q2
  refine ⟨h1.keeps k hd', ?_⟩
  unfold FamOf at h2 ⊢
  split at h2
  · exact h2
  · rename_i b off sv n c
    obtain ⟨g, cs, q1, q2, q3⟩ := h2
    have := hd' b off sv n c g cs rfl q1
    exact ⟨g, cs, k.row _ _ _ q1 this, q2, by rw [k.fam g (hw.row_fam q1) this]; exact q3⟩
  · exact h2.elim
theorem Own.fr {H H' : AHeap} {v : AV} {l : List α} {f : Option Nat} (h : Own enc sz H v l f) (hw : WF H) (k : Fr H H') : Own enc sz H' v l f := by
  refine h.keeps hw k.keeps fun g hg => ?_
  subst hg
  have := h.2.lt hw
  omega
/-- The nil slice. -/
theorem Own.nil {H : AHeap} {z : Nat} {c : Option Nat} (hc : ∀ n, c = some n → True) : Own enc sz H (.slc none z 0 c) [] none :=
  ⟨⟨by simp, none, z, c, rfl, by simp, rfl⟩, rfl⟩
theorem Sl.len {H : AHeap} {v : AV} {l : List α} (h : Sl enc sz H v l) : psem .len [v] = some (.int .i64 l.length) := by
  obtain ⟨_, p, sv, cap, rfl, _⟩ := h; rfl
theorem Sl.isNil {H : AHeap} {v : AV} {l : List α} (h : Sl enc sz H v l) (hl : l ≠ []) {neg : Bool} : psem (.isNil .slc neg) [v] = some (.bool neg) := by
  obtain ⟨_, p, sv, cap, rfl, _, h2⟩ := h
  cases p with
  | none => exact absurd h2 hl
  | some q => cases neg <;> rfl
/-- Where an element stands. -/
def elt (v : AV) (sz : Nat) (i : Int) : AV := match v with | .slc (some (b, o)) _ _ _ => .ptr (some (b, o + i.toNat * sz)) | _ => .undef
theorem flat_take {l : List α} (hz : ∀ x ∈ l, (enc x).cells.length = sz) : ∀ (i : Nat) (h : i < l.length), ((l.flatMap fun x => (enc x).cells).drop (i * sz)).take sz = (enc l[i]).cells := by
  induction l with
  | nil => intro i h; simp at h
  | cons x l ih =>
    intro i h
    have hx := hz x (by simp)
    cases i with
    | zero => simp [List.take_append, hx]
    | succ i =>
      have := ih (fun y hy => hz y (by simp [hy])) i (by simpa using h)
      rw [List.flatMap_cons, List.drop_append, Nat.add_mul, Nat.one_mul]
      have e : i * sz + sz - (enc x).cells.length = i * sz := by omega
      rw [List.drop_eq_nil_of_le (by omega), e, List.nil_append]
      simpa using this
theorem Sl.ia [Inhabited α] {H : AHeap} {v : AV} {l : List α} (h : Sl enc sz H v l) {k : IntKind} {i : Int} (h0 : 0 ≤ i) (h1 : i < l.length) : psem (.ia sz) [v, .int k i] = some (elt v sz i) := by
  obtain ⟨_, p, sv, cap, rfl, _, h2⟩ := h
  cases p with
  | none => have h2 : l = [] := h2; subst h2; simp at h1; omega
  | some q => simp [psem, h0, h1, elt]
theorem Sl.ldc [Inhabited α] {H : AHeap} {v : AV} {l : List α} (h : Sl enc sz H v l) {i : Int} (h0 : 0 ≤ i) (h1 : i < l.length) : ∃ b o, elt v sz i = .ptr (some (b, o)) ∧ H.ld b o sz = some (enc (nth l i)).cells := by
  obtain ⟨hz, p, sv, cap, rfl, _, h2⟩ := h
  cases p with
  | none => have h2 : l = [] := h2; subst h2; simp at h1; omega
  | some q =>
    obtain ⟨b, off⟩ := q
    obtain ⟨rfl, f, cs, h4, h5, h6⟩ := h2
    refine ⟨b, off + i.toNat * sv, rfl, ?_⟩
    have hi : i.toNat < l.length := by omega
    have hb : i.toNat * sv + sv ≤ l.length * sv := by
      have := Nat.mul_le_mul_right sv (show i.toNat + 1 ≤ l.length by omega)
      rw [Nat.add_mul, Nat.one_mul] at this; exact this
    simp only [AHeap.ld, h4]
    rw [if_pos (by omega)]
    have h7 := flat_take hz i.toNat hi
    rw [← h6] at h7
    have : nth l i = l[i.toNat] := by simp [nth, List.getElem?_eq_getElem hi]
    rw [this, ← h7]
    rw [List.drop_take, List.take_take, List.drop_drop]
    rw [Nat.min_eq_left (by omega)]
/-- Elements that fill one cell each. -/
abbrev Cell {α : Type} (enc : α → AV) : Prop := Nonempty (PLift (∀ x, (enc x).cell = true))
theorem Cell.cell {α : Type} {enc : α → AV} [h : Cell enc] (x : α) : (enc x).cell = true := h.elim fun p => p.down x
theorem Cell.cells [h : Cell enc] (x : α) : (enc x).cells = [enc x] := by
  have := Cell.cell (enc := enc) x
  cases e : enc x <;> simp_all [AV.cells, AV.cell]
abbrev encI (n : Int) : AV := .int .i64 n
abbrev encB (b : Bool) : AV := .bool b
abbrev encS (s : List UInt8) : AV := .str s
abbrev encU (c : UInt8) : AV := .int .u8 c.toNat
def encA (v : AV) : AV := if v.cell = true then v else .nilFn
instance : Cell encI := ⟨⟨fun _ => rfl⟩⟩
instance : Cell encB := ⟨⟨fun _ => rfl⟩⟩
instance : Cell encS := ⟨⟨fun _ => rfl⟩⟩
instance : Cell encU := ⟨⟨fun _ => rfl⟩⟩
instance : Cell encA := ⟨⟨fun v => by unfold encA; split <;> first | assumption | rfl⟩⟩
theorem Cell.len [h : Cell enc] (l : List α) : ∀ x ∈ l, (enc x).cells.length = 1 := fun x _ => by rw [Cell.cells]; rfl
theorem Cell.all [h : Cell enc] (l : List α) : ∀ x ∈ l, (enc x).cells.all AV.cell = true := fun x _ => by rw [Cell.cells]; simp [Cell.cell]
theorem Cell.flat [h : Cell enc] (l : List α) : (l.flatMap fun x => (enc x).cells) = l.map enc := by
  induction l with
  | nil => rfl
  | cons x l ih => rw [List.flatMap_cons, ih, Cell.cells]; rfl
theorem Sl.ld [Inhabited α] [hc : Cell enc] {H : AHeap} {v : AV} {l : List α} (h : Sl enc 1 H v l) {i : Int} (h0 : 0 ≤ i) (h1 : i < l.length) : rsem (.ld 1 false) [elt v 1 i] H = some (enc (nth l i)) := by
  obtain ⟨b, o, h2, h3⟩ := h.ldc h0 h1
  rw [Cell.cells] at h3
  simp only [rsem, h2, h3]; rfl
theorem Sl.ldA [Inhabited α] {H : AHeap} {v : AV} {l : List α} (h : Sl enc sz H v l) {i : Int} (h0 : 0 ≤ i) (h1 : i < l.length) {cs : List AV} (hc : enc (nth l i) = .agg cs) : rsem (.ld sz true) [elt v sz i] H = some (.agg cs) := by
  obtain ⟨b, o, h2, h3⟩ := h.ldc h0 h1
  rw [hc] at h3
  simp only [rsem, h2, h3]; rfl
theorem Sl.cells {H : AHeap} {v : AV} {l : List α} (h : Sl enc sz H v l) : lenOf v = some l.length ∧ H.cellsOf sz v = some (l.flatMap fun x => (enc x).cells) := by
  obtain ⟨hz, p, sv, cap, rfl, _, h2⟩ := h
  refine ⟨rfl, ?_⟩
  cases p with
  | none => have h2 : l = [] := h2; subst h2; rfl
  | some q =>
    obtain ⟨b, off⟩ := q
    obtain ⟨rfl, f, cs, h4, h5, h6⟩ := h2
    simp only [AHeap.cellsOf]
    by_cases hl : l.length = 0
    · rw [if_pos hl]; simp [List.length_eq_zero_iff.1 hl]
    · rw [if_neg hl]
      simp only [AHeap.ld, h4]
      rw [if_pos h5, h6]
theorem flat_len {l : List α} (hz : ∀ x ∈ l, (enc x).cells.length = sz) : (l.flatMap fun x => (enc x).cells).length = l.length * sz := by
  induction l with
  | nil => simp
  | cons x l ih =>
    rw [List.flatMap_cons, List.length_append, ih fun y hy => hz y (by simp [hy]), hz x (by simp), List.length_cons, Nat.add_mul, Nat.one_mul, Nat.add_comm]
/-- A slice that was just made. -/
theorem WF.own_new {H : AHeap} (hw : WF H) {l : List α} {cs : List AV} {cap : Option Nat} (hz : ∀ x ∈ l, (enc x).cells.length = sz) (hcap : ∀ c, cap = some c → l.length ≤ c) (hcs : l.length * sz ≤ cs.length) (he : cs.take (l.length * sz) = l.flatMap fun x => (enc x).cells) :
    Own enc sz (H.new cs) (.slc (some (H.next, 0)) sz l.length cap) l (some H.next) := by
  refine ⟨⟨hz, _, _, _, rfl, hcap, rfl, H.next, cs, row_new_same, by omega, by simpa using he⟩, H.next, cs, row_new_same, rfl, ?_⟩
  show (upd H.fam H.next _ H.next).isSome = true
  rw [upd_same]; rfl
theorem app_own {H : AHeap} (hw : WF H) {v x : AV} {l ys : List α} {f : Option Nat} {bytes : Nat} (ho : Own enc sz H v l f) (hx : Sl enc sz H x ys)
    (hs : sz ≠ 0) (hc : ∀ y ∈ ys, (enc y).cells.all AV.cell = true) (hb : (l.length + ys.length) * bytes ≤ 2 ^ 46) (hb2 : l.length + ys.length ≤ 2 ^ 60) :
    ∃ v' H' f', wsem0 (.app sz bytes) [v, x] H = some (v', H') ∧ WF H' ∧ Own enc sz H' v' (l ++ ys) f' ∧ Keeps (fun g => f = some g) H H' ∧ (∀ g, f' = some g → f = some g ∨ H.next ≤ g) := by
  obtain ⟨hx1, hx2⟩ := hx.cells
  obtain ⟨hl, hf⟩ := ho
  obtain ⟨hz, p, sv, cap, rfl, hcap, h2⟩ := hl
  have hzy := hx.1
  have hzz : ∀ y ∈ l ++ ys, (enc y).cells.length = sz := by
    intro y hy; rcases List.mem_append.1 hy with h | h
    · exact hz y h
    · exact hzy y h
  have e0 : wsem0 (.app sz bytes) [.slc p sv l.length cap, x] H = H.app sz bytes p sv l.length cap ys.length (ys.flatMap fun x => (enc x).cells) := by
    simp only [wsem0, wsem, hx1, hx2]
  rw [e0]
  unfold AHeap.app
  by_cases hm : ys.length = 0
  · rw [if_pos hm]
    have hy : ys = [] := List.length_eq_zero_iff.1 hm
    subst hy
    exact ⟨_, _, f, rfl, hw, by rw [List.append_nil]; exact ⟨⟨hz, p, sv, cap, rfl, hcap, h2⟩, hf⟩, .refl, fun g h => .inl h⟩
  · rw [if_neg hm]
    have hall : (ys.flatMap fun x => (enc x).cells).all AV.cell = true := by
      rw [List.all_eq_true]
      intro c hcm
      obtain ⟨y, hy, hcy⟩ := List.mem_flatMap.1 hcm
      exact List.all_eq_true.1 (hc y hy) c hcy
    have hyl := flat_len hzy
    rw [if_neg (by rw [hall, hyl]; simp; omega)]
    have fresh : ∀ (cs : List AV) (cap' : Option Nat), (∀ c, cap' = some c → l.length + ys.length ≤ c) → cs = (l ++ ys).flatMap (fun x => (enc x).cells) →
        ∃ v' H' f', some (AV.slc (some (H.next, 0)) sz (l.length + ys.length) cap', H.new cs) = some (v', H') ∧ WF H' ∧ Own enc sz H' v' (l ++ ys) f' ∧ Keeps (fun g => f = some g) H H' ∧ (∀ g, f' = some g → f = some g ∨ H.next ≤ g) := by
      intro cs cap' q1 q2
      have hcl := flat_len hzz
      refine ⟨_, _, some H.next, rfl, hw.new, ?_, hw.keeps_new, fun g h => by simp at h; omega⟩
      have := hw.own_new (l := l ++ ys) (cs := cs) (cap := cap') hzz (by simpa using q1) (by rw [q2, hcl]; exact Nat.le_refl _) (by rw [q2, ← hcl, List.take_length])
      simpa using this
    cases p with
    | none =>
      have h2 : l = [] := h2
      subst h2
      simp only
      have := fresh (ys.flatMap fun x => (enc x).cells) none (by simp) (by simp)
      simpa using this
    | some q =>
      obtain ⟨b, off⟩ := q
      obtain ⟨rfl, g, cs, h4, h5, h6⟩ := h2
      simp only
      split
      · rename_i hq
        have : l = [] := List.length_eq_zero_iff.1 hq.1
        subst this
        have := fresh (ys.flatMap fun x => (enc x).cells) none (by simp) (by simp)
        simpa using this
      · rw [h4]
        simp only
        rw [if_pos ⟨by trivial, h5⟩]
        obtain ⟨g', cs', q1, q2, q3⟩ := hf
        rw [h4] at q1; cases q1
        have hgn := hw.row_fam h4
        have shared : ∀ (cap' : Option Nat) (full : Bool), (∀ c, cap' = some c → l.length + ys.length ≤ c) → ∃ v' H' f', some (AV.slc (some (H.next, 0)) sv (l.length + ys.length) cap', H.share g b full ((cs.drop off).take (l.length * sv) ++ ys.flatMap fun x => (enc x).cells)) = some (v', H') ∧ WF H' ∧ Own enc sv H' v' (l ++ ys) f' ∧ Keeps (fun g => f = some g) H H' ∧ (∀ g, f' = some g → f = some g ∨ H.next ≤ g) := by
          intro cap' full q
          have hcl := flat_len hzz
          have hrow : ∀ (cells : List AV), (H.share g b full cells).row H.next = some (g, cells) := by
            intro cells
            simp [AHeap.row, AHeap.share]
          refine ⟨_, _, f, rfl, ?_, ⟨⟨hzz, some (H.next, 0), sv, cap', by rw [List.length_append], by simpa using q, rfl, g, _, hrow _, ?_, ?_⟩, g, _, hrow _, q2, ?_⟩, ?_, fun g h => .inl h⟩
          · constructor
            · intro c hc'
              show upd H.blk H.next _ c = none
              have hc' : H.next + 1 ≤ c := hc'
              rw [upd_ne _ _ _ (by omega)]
              exact hw.blk c (by omega)
            · intro c f' ds h
              show f' < H.next + 1
              have h : upd H.blk H.next _ c = _ := h
              by_cases hcc : c = H.next
              · subst hcc; rw [upd_same] at h; simp at h; omega
              · rw [upd_ne _ _ _ hcc] at h; have := hw.fam c f' ds h; omega
          · rw [h6, List.length_append, List.length_append, flat_len hz, hyl, Nat.add_mul]; omega
          · rw [h6, List.drop_zero, ← List.flatMap_append, ← hcl, List.take_length]
          · show (upd H.fam g _ g).isSome = true
            rw [upd_same]; rfl
          · constructor
            · exact Nat.le_succ _
            · intro c f' ds h hne
              have h1 := hw.row_lt h
              have h2 : f' ≠ g := fun e => hne (by rw [e]; exact q2)
              exact row_of h (upd_ne _ _ _ (by omega)) (upd_ne _ _ _ h2)
            · intro f' hf' hne
              have h2 : f' ≠ g := fun e => hne (by rw [e]; exact q2)
              show (upd H.fam g _ f').isSome = _
              rw [upd_ne _ _ _ h2]
            · intro m o h hro _
              show upd H.blk H.next _ m = _
              have : m ≠ H.next := by
                rintro rfl
                rw [hw.blk _ (Nat.le_refl _)] at h; cases h
              rw [upd_ne _ _ _ this]; exact h
            · exact fun _ _ => rfl
        cases cap with
        | none =>
          simp only
          rw [if_pos q3]
          exact shared none _ (by simp)
        | some c =>
          simp only
          by_cases hcc : l.length + ys.length ≤ c
          · rw [if_pos hcc, if_pos q3]
            exact shared (some c) _ (by simpa using hcc)
          · rw [if_neg hcc]
            exact fresh _ none (by simp) (by rw [h6, List.flatMap_append])
/-- Appending values that stand in the text. -/
theorem app_push {H : AHeap} (hw : WF H) {v : AV} {l ys : List α} {f : Option Nat} {bytes : Nat} (ho : Own enc sz H v l f)
    (hs : sz ≠ 0) (hy : ∀ y ∈ ys, (enc y).cells.length = sz) (hc : ∀ y ∈ ys, (enc y).cells.all AV.cell = true) (hb : (l.length + ys.length) * bytes ≤ 2 ^ 46) (hb2 : l.length + ys.length ≤ 2 ^ 60) :
    ∃ v' H' f', wsem0 (.app sz bytes) [v, .slc (some (H.next, 0)) sz ys.length (some ys.length)] (H.new (ys.flatMap fun x => (enc x).cells)) = some (v', H') ∧ WF H' ∧ Own enc sz H' v' (l ++ ys) f' ∧ Keeps (fun g => f = some g) H H' ∧ (∀ g, f' = some g → f = some g ∨ H.next ≤ g) := by
  have h1 := hw.own_new (l := ys) (cs := ys.flatMap fun x => (enc x).cells) (cap := some ys.length) (sz := sz) hy (by simp) (by rw [flat_len hy]; exact Nat.le_refl _) (by rw [← flat_len hy, List.take_length])
  obtain ⟨v', H', f', q1, q2, q3, q4, q5⟩ := app_own (bytes := bytes) hw.new (ho.fr hw hw.fr_new) h1.sl hs hc hb hb2
  exact ⟨v', H', f', q1, q2, q3, hw.keeps_new.trans q4, fun g hg => (q5 g hg).imp id fun h => Nat.le_of_succ_le h⟩
/-- A part of a slice. -/
theorem Sl.cut {H : AHeap} {v : AV} {l : List α} (h : Sl enc sz H v l) (i j : Nat) (hij : i ≤ j) (hj : j ≤ l.length) :
    ∃ v', (∀ (k k' : IntKind), psem (.sl sz true true false) [v, .int k i, .int k' j] = some v') ∧ (∀ (k : IntKind), j = l.length → psem (.sl sz true false false) [v, .int k i] = some v') ∧ (∀ (k : IntKind), i = 0 → psem (.sl sz false true false) [v, .int k j] = some v') ∧ Sl enc sz H v' ((l.take j).drop i) ∧ (∀ f, FamOf H v f → FamOf H v' f) ∧ (∀ b off sv n c, v' = .slc (some (b, off)) sv n c → ∃ off0 sv0 n0 c0, v = .slc (some (b, off0)) sv0 n0 c0) := by
  obtain ⟨hz, p, sv, cap, rfl, hcap, h2⟩ := h
  have hlim : j ≤ limOf p l.length cap := by
    cases p with
    | none => have h2 : l = [] := h2; subst h2; simp at hj; omega
    | some q =>
      unfold limOf
      cases cap with
      | none => exact hj
      | some c => have := hcap c rfl; simp; omega
  have hsv : p.isNone = true ∨ sv = sz := by
    cases p with
    | none => exact .inl rfl
    | some q => exact .inr h2.1
  have hsv' : p = none ∨ sv = sz := by simpa using hsv
  have hlen : ((l.take j).drop i).length = j - i := by simp; omega
  refine ⟨.slc (p.map fun q => (q.1, q.2 + i * sz)) sv (j - i) (capOf none cap i), ?_, ?_, ?_, ⟨?_, _, _, _, by rw [hlen], ?_, ?_⟩, ?_, ?_⟩
  · intro k k'
    simp [psem, slice, bound, natOf, leO, capOf, hlim, hij, hsv']
  · intro k e
    subst e
    simp [psem, slice, bound, natOf, leO, capOf, hlim, hij, hsv']
  · intro k e
    subst e
    simp [psem, slice, bound, natOf, leO, capOf, hlim, hij, hsv']
  · intro x hx
    exact hz x (List.mem_of_mem_take (List.mem_of_mem_drop hx))
  · intro c hc'
    rw [hlen]
    cases cap with
    | none => simp [capOf] at hc'
    | some c' => simp [capOf] at hc'; have := hcap c' rfl; omega
  · cases p with
    | none => have h2 : l = [] := h2; subst h2; simp
    | some q =>
      obtain ⟨b, off⟩ := q
      obtain ⟨h3, f, cs, h4, h5, h6⟩ := h2
      refine ⟨h3, f, cs, h4, ?_, ?_⟩
      · rw [hlen]
        have : i * sz + (j - i) * sz ≤ l.length * sz := by
          rw [← Nat.add_mul]; exact Nat.mul_le_mul_right _ (by omega)
        show off + i * sz + (j - i) * sz ≤ cs.length
        omega
      · rw [hlen]
        show ((cs.drop (off + i * sz)).take ((j - i) * sz)) = _
        have e1 : ∀ (l : List α) (n : Nat), (∀ x ∈ l, (enc x).cells.length = sz) → (l.flatMap fun x => (enc x).cells).take (n * sz) = (l.take n).flatMap fun x => (enc x).cells := by
          intro l
          induction l with
          | nil => intro n _; simp
          | cons x l ih =>
            intro n hz
            cases n with
            | zero => simp
            | succ n =>
              have hx := hz x (by simp)
              rw [List.take_succ_cons, List.flatMap_cons, List.flatMap_cons, ← ih n fun y hy => hz y (by simp [hy]), List.take_append, Nat.add_mul, Nat.one_mul]
              rw [List.take_of_length_le (by omega), hx, Nat.add_sub_cancel]
        have e2 : ∀ (l : List α) (n : Nat), (∀ x ∈ l, (enc x).cells.length = sz) → (l.flatMap fun x => (enc x).cells).drop (n * sz) = (l.drop n).flatMap fun x => (enc x).cells := by
          intro l
          induction l with
          | nil => intro n _; simp
          | cons x l ih =>
            intro n hz
            cases n with
            | zero => simp
            | succ n =>
              have hx := hz x (by simp)
              rw [List.drop_succ_cons, List.flatMap_cons, ← ih n fun y hy => hz y (by simp [hy]), List.drop_append, Nat.add_mul, Nat.one_mul]
              rw [List.drop_eq_nil_of_le (by omega), hx, Nat.add_sub_cancel, List.nil_append]
        rw [← e2 _ _ fun x hx => hz x (List.mem_of_mem_take hx), ← e1 _ _ hz, ← h6, List.take_take, List.drop_take, List.drop_drop]
        have : j * sz ≤ l.length * sz := Nat.mul_le_mul_right _ hj
        rw [Nat.min_eq_left this, Nat.sub_mul]
  · intro f hf
    cases p with
    | none => exact hf
    | some q => exact hf
  · intro b off sv1 n c e
    cases p with
    | none => simp at e
    | some q =>
      obtain ⟨b', off'⟩ := q
      simp at e
      obtain ⟨⟨rfl, _⟩, _⟩ := e
      exact ⟨_, _, _, _, rfl⟩
end
end Go.Am

/- More rules: slices written out in the text, one value appended, variables that lie in a row of their own. -/
set_option linter.unusedVariables false
set_option linter.unusedSimpArgs false
namespace Go.Am
@[simp] theorem wsem0_box {v : AV} {H : AHeap} : wsem0 .box [v] H = if v.cells.all AV.cell = true then some (.ptr (some (H.next, 0)), H.new v.cells) else none := rfl
theorem wsem0_bsl1 {v z : AV} {H : AHeap} (h : v.cell = true) : wsem0 (.bsl 1 1 [z] [(0, 1)]) [v] H = some (.slc (some (H.next, 0)) 1 1 (some 1), H.new [v]) := by
  have hc : v.cells = [v] := by cases v <;> simp_all [AV.cells, AV.cell]
  simp [wsem0, wsem, fill, hc, h, splice]
@[simp] theorem wsem0_bsl0 {n : Nat} {H : AHeap} : wsem0 (.bsl (n + 1) 0 [] []) [] H = some (.slc (some (H.next, 0)) (n + 1) 0 (some 0), H.new []) := by
  simp [wsem0, wsem, fill]
theorem wsem0_st {n p q : Nat} {v : AV} {H : AHeap} : wsem0 (.st n) [.ptr (some (p, q)), v] H = if v.cells.length = n then (match H.st p q v.cells with | some H' => some (.undef, H') | none => none) else none := rfl
def AHeap.newMap (H : AHeap) : AHeap := H.newObj (.map true [] ([], 0))
@[simp] theorem wsem0_mkM {H : AHeap} : wsem0 .mkM [] H = some (.map (some H.next), H.newMap) := rfl
section
variable {α : Type} {enc : α → AV} {sz : Nat}
theorem Sl.form {H : AHeap} {v : AV} {l : List α} (h : Sl enc sz H v l) : v.cell = true ∧ v.cells = [v] := by
  obtain ⟨_, p, sv, cap, rfl, _⟩ := h
  exact ⟨rfl, rfl⟩
/-- What was made since. -/
def Made (enc : α → AV) (sz : Nat) (n : Nat) (H : AHeap) (v : AV) (l : List α) : Prop := ∃ f, Own enc sz H v l f ∧ ∀ g, f = some g → n ≤ g
theorem Made.sl {n : Nat} {H : AHeap} {v : AV} {l : List α} (h : Made enc sz n H v l) : Sl enc sz H v l := h.choose_spec.1.1
theorem Made.nil {n z : Nat} {H : AHeap} : Made enc sz n H (.slc none z 0 none) [] := ⟨none, Own.nil (by simp), by simp⟩
theorem Made.mono {n m : Nat} {H : AHeap} {v : AV} {l : List α} (h : Made enc sz n H v l) (hm : m ≤ n) : Made enc sz m H v l := by
  obtain ⟨f, h1, h2⟩ := h
  exact ⟨f, h1, fun g hg => Nat.le_trans hm (h2 g hg)⟩
theorem Made.keeps {D : Nat → Prop} {n : Nat} {H H' : AHeap} {v : AV} {l : List α} (h : Made enc sz n H v l) (hw : WF H) (k : Keeps D H H') (hd : ∀ g, n ≤ g → g < H.next → ¬D g) : Made enc sz n H' v l := by
  obtain ⟨f, h1, h2⟩ := h
  refine ⟨f, h1.keeps hw k fun g hg => ?_, h2⟩
  subst hg
  exact hd g (h2 g rfl) (h1.2.lt hw)
theorem Made.fr {n : Nat} {H H' : AHeap} {v : AV} {l : List α} (h : Made enc sz n H v l) (hw : WF H) (k : Fr H H') : Made enc sz n H' v l :=
  h.keeps hw k.keeps fun g _ h2 => by omega
theorem push1 [Cell enc] {H : AHeap} (hw : WF H) {v : AV} {l : List α} {f : Option Nat} {bytes : Nat} (ho : Own enc 1 H v l f) (x : α) (hb : (l.length + 1) * bytes ≤ 2 ^ 46) (hb2 : l.length + 1 ≤ 2 ^ 60) :
    ∃ v' H' f', wsem0 (.app 1 bytes) [v, .slc (some (H.next, 0)) 1 1 (some 1)] (H.new [enc x]) = some (v', H') ∧ WF H' ∧ Own enc 1 H' v' (l ++ [x]) f' ∧ Keeps (fun g => f = some g) H H' ∧ (∀ g, f' = some g → f = some g ∨ H.next ≤ g) := by
  have := app_push (bytes := bytes) (ys := [x]) hw ho (by simp) (Cell.len _) (Cell.all _) (by simpa using hb) (by simpa using hb2)
  rw [Cell.flat] at this
  simpa using this
end
/-! ### With variables that others may write -/
section
variable {α : Type} {enc : α → AV} {sz : Nat}
theorem push_n [Cell enc] {n : Nat} {H : AHeap} (hw : WF H) (hn : n ≤ H.next) {v : AV} {l : List α} {bytes : Nat} (ho : Made enc 1 n H v l) (x : α) (hb : (l.length + 1) * bytes ≤ 2 ^ 46) (hb2 : l.length + 1 ≤ 2 ^ 60) :
    ∃ v' H', wsem0 (.app 1 bytes) [v, .slc (some (H.next, 0)) 1 1 (some 1)] (H.new [enc x]) = some (v', H') ∧ WF H' ∧ Keeps (n ≤ ·) H H' ∧ Made enc 1 n H' v' (l ++ [x]) := by
  obtain ⟨f, h1, h2⟩ := ho
  obtain ⟨v', H', f', q1, q2, q3, q4, q5⟩ := push1 (bytes := bytes) hw h1 x hb hb2
  refine ⟨v', H', q1, q2, q4.mono h2, f', q3, fun g hg => ?_⟩
  rcases q5 g hg with h | h
  · exact h2 g h
  · exact Nat.le_trans hn h
/-- A slice that is read, of no family in D. -/
def Rd (D : Nat → Prop) (enc : α → AV) (sz : Nat) (H : AHeap) (v : AV) (l : List α) : Prop :=
  Sl enc sz H v l ∧ ∀ b off sv n c f cs, v = .slc (some (b, off)) sv n c → H.row b = some (f, cs) → ¬D f
theorem Rd.sl {D : Nat → Prop} {H : AHeap} {v : AV} {l : List α} (h : Rd D enc sz H v l) : Sl enc sz H v l := h.1
theorem Rd.keeps {D : Nat → Prop} {H H' : AHeap} {v : AV} {l : List α} (h : Rd D enc sz H v l) (hw : WF H) (k : Keeps (fun g => D g ∨ H.next ≤ g) H H') : Rd D enc sz H' v l := by
  obtain ⟨h1, h2⟩ := h
  have h3 : ∀ b off sv n c f cs, v = .slc (some (b, off)) sv n c → H.row b = some (f, cs) → ¬(D f ∨ H.next ≤ f) := by
    intro b off sv n c f cs e hr hd
    rcases hd with hd | hd
    · exact h2 b off sv n c f cs e hr hd
    · have := hw.row_fam hr; omega
  refine ⟨h1.keeps k h3, ?_⟩
  intro b off sv n c f cs e hr
  subst e
  obtain ⟨_, p, sv', cap', e, _, h5⟩ := h1
  cases e
  obtain ⟨_, f', cs', h6, _⟩ := h5
  have := k.row _ _ _ h6 (h3 b off sv _ c f' cs' rfl h6)
  rw [hr] at this
  cases this
  exact h2 b off sv _ c _ _ rfl h6
theorem Rd.keepsD {D : Nat → Prop} {H H' : AHeap} {v : AV} {l : List α} (h : Rd D enc sz H v l) (k : Keeps D H H') : Rd D enc sz H' v l := by
  obtain ⟨h1, h2⟩ := h
  refine ⟨h1.keeps k h2, ?_⟩
  intro b off sv n c f cs e hr
  subst e
  obtain ⟨_, p, sv', cap', e, _, h5⟩ := h1
  cases e
  obtain ⟨_, f', cs', h6, _⟩ := h5
  have := k.row _ _ _ h6 (h2 b off sv _ c f' cs' rfl h6)
  rw [hr] at this
  cases this
  exact h2 b off sv _ c _ _ rfl h6
theorem Sl.rd {H : AHeap} {v : AV} {l : List α} (h : Sl enc sz H v l) (hw : WF H) : Rd (fun g => H.next ≤ g) enc sz H v l :=
  ⟨h, fun b off sv n c f cs e hr hd => by have := hw.row_fam hr; omega⟩
theorem Rd.mono {D D' : Nat → Prop} {H : AHeap} {v : AV} {l : List α} (h : Rd D enc sz H v l) (k : ∀ g, D' g → D g) : Rd D' enc sz H v l :=
  ⟨h.1, fun b off sv n c f cs e hr hd => h.2 b off sv n c f cs e hr (k f hd)⟩
theorem Made.rd {D : Nat → Prop} {n : Nat} {H : AHeap} {v : AV} {l : List α} (h : Made enc sz n H v l) (hd : ∀ g, D g → g < n) : Rd D enc sz H v l := by
  obtain ⟨f, h1, h2⟩ := h
  refine ⟨h1.1, ?_⟩
  intro b off sv m c g cs e hr hg
  subst e
  obtain ⟨g', cs', q1, q2, _⟩ := h1.2
  rw [hr] at q1
  cases q1
  have := h2 _ q2
  have := hd _ hg
  omega
theorem Rd.cut {D : Nat → Prop} {H : AHeap} {v : AV} {l : List α} (h : Rd D enc sz H v l) (i j : Nat) (hij : i ≤ j) (hj : j ≤ l.length) :
    ∃ v', (∀ (k k' : IntKind), psem (.sl sz true true false) [v, .int k i, .int k' j] = some v') ∧ (∀ (k : IntKind), j = l.length → psem (.sl sz true false false) [v, .int k i] = some v') ∧ (∀ (k : IntKind), i = 0 → psem (.sl sz false true false) [v, .int k j] = some v') ∧ Rd D enc sz H v' ((l.take j).drop i) := by
  obtain ⟨h1, h2⟩ := h
  obtain ⟨v', q1, q2, q3, q4, q5, q6⟩ := h1.cut i j hij hj
  refine ⟨v', q1, q2, q3, q4, ?_⟩
  intro b off sv n c f cs e hr
  obtain ⟨off0, sv0, n0, c0, e'⟩ := q6 b off sv n c e
  exact h2 b off0 sv0 n0 c0 f cs e' hr
end
/-! ### Variables in a row of their own -/
structure Box (H : AHeap) (b f : Nat) (cs : List AV) : Prop where
  row : H.row b = some (f, cs)
  fam : (H.fam f).isSome = true
theorem Box.new {H : AHeap} {cs : List AV} : Box (H.new cs) H.next H.next cs := by
  refine ⟨row_new_same, ?_⟩
  show (upd H.fam H.next _ H.next).isSome = true
  rw [upd_same]; rfl
theorem Box.keeps {D : Nat → Prop} {H H' : AHeap} {b f : Nat} {cs : List AV} (h : Box H b f cs) (hw : WF H) (k : Keeps D H H') (hd : ¬D f) : Box H' b f cs :=
  ⟨k.row _ _ _ h.row hd, by rw [k.fam f (hw.row_fam h.row) hd]; exact h.fam⟩
theorem Box.ld1 {H : AHeap} {b f : Nat} {x : AV} (h : Box H b f [x]) : rsem (.ld 1 false) [.ptr (some (b, 0))] H = some x := by
  simp [rsem, AHeap.ld, h.row]
theorem Box.st {H : AHeap} (hw : WF H) {b f off : Nat} {cs vs : List AV} (h : Box H b f cs) (hl : off + vs.length ≤ cs.length) (hc : vs.all AV.cell = true) :
    ∃ H', H.st b off vs = some H' ∧ WF H' ∧ Box H' b f (splice cs off vs) ∧ Keeps (fun g => g = f) H H' ∧ H'.next = H.next := by
  have e : H.st b off vs = some { H with blk := upd H.blk b (some (.row f (splice cs off vs))), fam := upd H.fam f (some (b, none)) } := by
    simp only [AHeap.st, h.row]
    rw [if_pos ⟨h.fam, hl, hc⟩]
  have hb := hw.row_lt h.row
  have hf := hw.row_fam h.row
  refine ⟨_, e, ⟨?_, ?_⟩, ⟨by simp [AHeap.row], by show (upd H.fam f _ f).isSome = true; rw [upd_same]; rfl⟩, ⟨Nat.le_refl _, ?_, ?_, ?_, fun _ _ => rfl⟩, rfl⟩
  · intro c hc'
    show upd H.blk b _ c = none
    have hc' : H.next ≤ c := hc'
    rw [upd_ne _ _ _ (by omega)]
    exact hw.blk c hc'
  · intro c g ds hc'
    have hc' : upd H.blk b _ c = _ := hc'
    by_cases e : c = b
    · subst e; rw [upd_same] at hc'; simp at hc'; show g < H.next; omega
    · rw [upd_ne _ _ _ e] at hc'; exact hw.fam c g ds hc'
  · intro c g ds hr hne
    have hcb : c ≠ b := by
      rintro rfl
      rw [h.row] at hr; simp at hr; exact hne hr.1.symm
    exact row_of hr (upd_ne _ _ _ hcb) (upd_ne _ _ _ hne)
  · intro g hg hne
    show (upd H.fam f _ g).isSome = _
    rw [upd_ne _ _ _ hne]
  · intro m o hm hro hne
    show upd H.blk b _ m = _
    have : m ≠ b := by
      rintro rfl
      rw [AHeap.row_blk h.row] at hm; simp at hm; subst hm; cases hro
    rw [upd_ne _ _ _ this]; exact hm
theorem Box.st1 {H : AHeap} (hw : WF H) {b f : Nat} {x y : AV} (h : Box H b f [x]) (hc : y.cell = true) :
    ∃ H', wsem0 (.st 1) [.ptr (some (b, 0)), y] H = some (.undef, H') ∧ WF H' ∧ Box H' b f [y] ∧ Keeps (fun g => g = f) H H' ∧ H'.next = H.next := by
  have hy : y.cells = [y] := by cases y <;> simp_all [AV.cells, AV.cell]
  obtain ⟨H', q1, q2, q3, q4, q5⟩ := h.st hw (off := 0) (vs := [y]) (by simp) (by simpa using hc)
  refine ⟨H', ?_, q2, by simpa [splice] using q3, q4, q5⟩
  simp [wsem0_st, hy, q1]
theorem Box.stA {H : AHeap} (hw : WF H) {b f n : Nat} {cs ds : List AV} (h : Box H b f cs) (hc : cs.length = n) (hd : ds.length = n) (ha : ds.all AV.cell = true) :
    ∃ H', wsem0 (.st n) [.ptr (some (b, 0)), .agg ds] H = some (.undef, H') ∧ WF H' ∧ Box H' b f ds ∧ Keeps (fun g => g = f) H H' ∧ H'.next = H.next := by
  obtain ⟨H', q1, q2, q3, q4, q5⟩ := h.st hw (off := 0) (vs := ds) (by omega) ha
  refine ⟨H', ?_, q2, ?_, q4, q5⟩
  · simp only [wsem0_st, AV.cells, hd, if_true, q1]
  · have : splice cs 0 ds = ds := by simp [splice]; omega
    rwa [this] at q3
theorem Box.ldA {H : AHeap} {b f n : Nat} {cs : List AV} (h : Box H b f cs) (hc : cs.length = n) : rsem (.ld n true) [.ptr (some (b, 0))] H = some (.agg cs) := by
  subst hc
  simp [rsem, AHeap.ld, h.row]
theorem wsem0_bslA {n : Nat} {z cs : List AV} {H : AHeap} (hz : z.length = n) (hc : cs.length = n) (ha : cs.all AV.cell = true) (hn : n ≠ 0) : wsem0 (.bsl n 1 z [(0, n)]) [.agg cs] H = some (.slc (some (H.next, 0)) n 1 (some 1), H.new cs) := by
  have : splice z 0 cs = cs := by simp [splice]; omega
  simp only [List.all_eq_true] at ha
  simp [wsem0, wsem, fill, AV.cells, hc, hz, this, hn]
  rw [if_pos ha]
  simp [hc]
theorem psem_bld' {z : List AV} {at_ : List (Nat × Nat)} {vs : List AV} : psem (.bld z at_) vs = match fill z at_ vs with | some cs => some (.agg cs) | none => none := by cases vs <;> rfl
section
variable {α : Type} {enc : α → AV} {sz : Nat}
end
theorem splice_one {cs : List AV} {k : Nat} {y : AV} (h : k < cs.length) : splice cs k [y] = cs.set k y := by
  rw [List.set_eq_take_append_cons_drop, if_pos h]
  simp [splice]
section
variable {α : Type} {enc : α → AV}
/-- An element is written. -/
theorem Made.st [Cell enc] {n : Nat} {H : AHeap} (hw : WF H) {v : AV} {l : List α} (h : Made enc 1 n H v l) {i : Int} (h0 : 0 ≤ i) (h1 : i < l.length) (x : α) :
    ∃ H', wsem0 (.st 1) [elt v 1 i, enc x] H = some (.undef, H') ∧ WF H' ∧ Keeps (n ≤ ·) H H' ∧ Made enc 1 n H' v (l.set i.toNat x) ∧ H'.next = H.next := by
  obtain ⟨f, ⟨⟨hz, p, sv, cap, rfl, hcap, h2⟩, hf⟩, hn⟩ := h
  cases p with
  | none => have h2 : l = [] := h2; subst h2; simp at h1; omega
  | some q =>
    obtain ⟨b, off⟩ := q
    obtain ⟨rfl, g, cs, h4, h5, h6⟩ := h2
    obtain ⟨g', cs', q1, q2, q3⟩ := hf
    rw [h4] at q1; cases q1
    have hbox : Box H b g cs := ⟨h4, q3⟩
    have hi : off + i.toNat < cs.length := by omega
    obtain ⟨H', r1, r2, r3, r4, r5⟩ := hbox.st hw (off := off + i.toNat) (vs := [enc x]) (by simp; omega) (by simpa using Cell.cell x)
    rw [splice_one hi] at r3
    have hc := Cell.cells (enc := enc) x
    refine ⟨H', ?_, r2, r4.mono fun g' hg => by subst hg; exact hn _ q2, ⟨f, ⟨⟨Cell.len _, some (b, off), 1, cap, by rw [List.length_set], by simpa using hcap, rfl, g, _, r3.row, by simpa using h5, ?_⟩, g, _, r3.row, q2, r3.fam⟩, hn⟩, r5⟩
    · simp only [elt, Nat.mul_one, wsem0_st, hc, List.length_singleton, if_true, r1]
    · rw [Cell.flat] at h6 ⊢
      rw [List.length_set, List.drop_set, if_neg (by omega), List.take_set, h6, List.map_set]
      congr 1
      omega
/-- Two lists that grow side by side. -/
def Two (enc : α → AV) (n : Nat) (H : AHeap) (a : AV) (la : List α) (b : AV) (lb : List α) : Prop :=
  ∃ fa fb, Own enc 1 H a la fa ∧ Own enc 1 H b lb fb ∧ (∀ g, fa = some g → n ≤ g) ∧ (∀ g, fb = some g → n ≤ g) ∧ ∀ g, fa = some g → fb = some g → False
theorem Two.nil {n : Nat} {H : AHeap} : Two enc n H (.slc none 0 0 none) [] (.slc none 0 0 none) [] := ⟨none, none, Own.nil (by simp), Own.nil (by simp), by simp, by simp, by simp⟩
theorem Two.symm {n : Nat} {H : AHeap} {a b : AV} {la lb : List α} (h : Two enc n H a la b lb) : Two enc n H b lb a la := by
  obtain ⟨fa, fb, h1, h2, h3, h4, h5⟩ := h
  exact ⟨fb, fa, h2, h1, h4, h3, fun g x y => h5 g y x⟩
theorem Two.left {n : Nat} {H : AHeap} {a b : AV} {la lb : List α} (h : Two enc n H a la b lb) : Made enc 1 n H a la := by
  obtain ⟨fa, fb, h1, h2, h3, h4, h5⟩ := h
  exact ⟨fa, h1, h3⟩
theorem Two.push [Cell enc] {n : Nat} {H : AHeap} (hw : WF H) (hn : n ≤ H.next) {a b : AV} {la lb : List α} {bytes : Nat} (h : Two enc n H a la b lb) (x : α) (hb : (la.length + 1) * bytes ≤ 2 ^ 46) (hb2 : la.length + 1 ≤ 2 ^ 60) :
    ∃ v' H', wsem0 (.app 1 bytes) [a, .slc (some (H.next, 0)) 1 1 (some 1)] (H.new [enc x]) = some (v', H') ∧ WF H' ∧ Keeps (n ≤ ·) H H' ∧ Two enc n H' v' (la ++ [x]) b lb := by
  obtain ⟨fa, fb, h1, h2, h3, h4, h5⟩ := h
  obtain ⟨v', H', f', q1, q2, q3, q4, q5⟩ := push1 (bytes := bytes) hw h1 x hb hb2
  refine ⟨v', H', q1, q2, q4.mono h3, f', fb, q3, h2.keeps hw q4 fun g hg hd => h5 g hd hg, fun g hg => ?_, h4, fun g hg hd => ?_⟩
  · rcases q5 g hg with h | h
    · exact h3 g h
    · exact Nat.le_trans hn h
  · rcases q5 g hg with h | h
    · exact h5 g h hd
    · subst hd
      have := h2.2.lt hw
      omega
end
/-! ### Maps and other objects -/
theorem WF.newObj {H : AHeap} (hw : WF H) {o : AObj} (ho : o.isRow = false) : WF (H.newObj o) ∧ (H.newObj o).blk H.next = some o ∧ ∀ D, Keeps D H (H.newObj o) := by
  refine ⟨⟨?_, ?_⟩, upd_same _ _ _, fun D => ⟨Nat.le_succ _, ?_, fun _ _ _ => rfl, ?_, fun _ _ => rfl⟩⟩
  · intro b hb
    show upd H.blk H.next _ b = none
    have hb : H.next + 1 ≤ b := hb
    rw [upd_ne _ _ _ (by omega)]
    exact hw.blk b (by omega)
  · intro b f ds h
    show f < H.next + 1
    have h : upd H.blk H.next (some o) b = _ := h
    by_cases hb : b = H.next
    · subst hb; rw [upd_same] at h; simp at h; subst h; cases ho
    · rw [upd_ne _ _ _ hb] at h; have := hw.fam b f ds h; omega
  · intro b f ds h _
    have h1 := hw.row_lt h
    exact row_of h (upd_ne _ _ _ (by omega)) rfl
  · intro m o' h _ _
    show upd H.blk H.next _ m = _
    have : m ≠ H.next := by
      rintro rfl
      rw [hw.blk _ (Nat.le_refl _)] at h; cases h
    rw [upd_ne _ _ _ this]; exact h
theorem WF.obj_lt {H : AHeap} (hw : WF H) {m : Nat} {o : AObj} (h : H.blk m = some o) : m < H.next := by
  by_cases h2 : m < H.next
  · exact h2
  · have := hw.blk m (by omega); rw [h] at this; cases this
theorem WF.setObj {H : AHeap} (hw : WF H) {m : Nat} {o o' : AObj} (h : H.blk m = some o) (ho : o.isRow = false) (ho' : o'.isRow = false) : WF (H.setObj m o') ∧ (H.setObj m o').blk m = some o' ∧ Keeps (fun g => g = m) H (H.setObj m o') := by
  have hm := hw.obj_lt h
  refine ⟨⟨?_, ?_⟩, upd_same _ _ _, ⟨Nat.le_refl _, ?_, fun _ _ _ => rfl, ?_, fun _ _ => rfl⟩⟩
  · intro b hb
    show upd H.blk m _ b = none
    have hb : H.next ≤ b := hb
    rw [upd_ne _ _ _ (by omega)]
    exact hw.blk b hb
  · intro b f ds hb
    have hb : upd H.blk m (some o') b = _ := hb
    by_cases e : b = m
    · subst e; rw [upd_same] at hb; simp at hb; subst hb; cases ho'
    · rw [upd_ne _ _ _ e] at hb; exact hw.fam b f ds hb
  · intro b f ds hr _
    have hbm : b ≠ m := by
      rintro rfl
      have := AHeap.row_blk hr
      rw [h] at this; simp at this; subst this; cases ho
    exact row_of hr (upd_ne _ _ _ hbm) rfl
  · intro m' o1 h' _ hne
    show upd H.blk m _ m' = _
    rw [upd_ne _ _ _ hne]; exact h'
/-- The stamps of a map's entries. -/
structure StOk (st : List Nat × Nat) (es : List (AV × AV)) : Prop where
  len : st.1.length = es.length
  nodup : st.1.Nodup
  lt : ∀ b ∈ st.1, b < st.2
/-- A map that may be written, and its entries. -/
def Mp (H : AHeap) (m : Nat) (es : List (AV × AV)) : Prop := ∃ st, H.blk m = some (.map true es st) ∧ StOk st es
theorem Mp.lt {H : AHeap} (hw : WF H) {m : Nat} {es : List (AV × AV)} (h : Mp H m es) : m < H.next := by
  obtain ⟨st, h1, _⟩ := h; exact hw.obj_lt h1
theorem Mp.keeps {D : Nat → Prop} {H H' : AHeap} {m : Nat} {es : List (AV × AV)} (h : Mp H m es) (k : Keeps D H H') (hd : ¬D m) : Mp H' m es := by
  obtain ⟨st, h1, h2⟩ := h; exact ⟨st, k.obj m _ h1 rfl hd, h2⟩
theorem WF.newMap {H : AHeap} (hw : WF H) : WF H.newMap ∧ Mp H.newMap H.next [] ∧ ∀ D, Keeps D H H.newMap := by
  obtain ⟨h1, h2, h3⟩ := hw.newObj (o := .map true [] ([], 0)) rfl
  exact ⟨h1, ⟨_, h2, ⟨rfl, List.nodup_nil, by simp⟩⟩, h3⟩
theorem StOk.snoc {st : List Nat × Nat} {es : List (AV × AV)} (h : StOk st es) (e : AV × AV) : StOk (st.1 ++ [st.2], st.2 + 1) (es ++ [e]) := by
  refine ⟨by simp [h.len], ?_, ?_⟩
  · rw [List.nodup_append]
    refine ⟨h.nodup, by simp, fun a ha b hb => ?_⟩
    simp at hb; subst hb
    have := h.lt a ha; omega
  · intro b hb
    simp only [List.mem_append, List.mem_singleton] at hb
    rcases hb with hb | hb
    · have := h.lt b hb; show b < st.2 + 1; omega
    · show b < st.2 + 1; omega
theorem StOk.set {st : List Nat × Nat} {es : List (AV × AV)} (h : StOk st es) (i : Nat) (e : AV × AV) : StOk st (es.set i e) := ⟨by simp [h.len], h.nodup, h.lt⟩
theorem StOk.erase {st : List Nat × Nat} {es : List (AV × AV)} (h : StOk st es) (i : Nat) : StOk (st.1.eraseIdx i, st.2) (es.eraseIdx i) :=
  ⟨by simp [List.length_eraseIdx, h.len], h.nodup.sublist (List.eraseIdx_sublist _ _), fun b hb => h.lt b ((List.eraseIdx_sublist _ _).mem hb)⟩
/-- What a map's writer leaves. -/
structure MpTo (H H' : AHeap) (m : Nat) (es : List (AV × AV)) : Prop where
  wf : WF H'
  mp : Mp H' m es
  keeps : Keeps (fun g => g = m) H H'
  next : H'.next = H.next
theorem MpTo.trans {H H1 H2 : AHeap} {m : Nat} {es es' : List (AV × AV)} (h : MpTo H H1 m es) (k : MpTo H1 H2 m es') : MpTo H H2 m es' := ⟨k.wf, k.mp, h.keeps.trans k.keeps, k.next.trans h.next⟩
theorem Mp.to {H : AHeap} (hw : WF H) {m : Nat} {es es' : List (AV × AV)} {st st' : List Nat × Nat} (h : H.blk m = some (.map true es st)) (hs : StOk st' es') : MpTo H (H.setMap m es' st') m es' := by
  obtain ⟨h1, h2, h3⟩ := hw.setObj (o' := .map true es' st') h rfl rfl
  exact ⟨h1, ⟨st', h2, hs⟩, h3, rfl⟩
/-- A new key. -/
theorem Mp.mset {H : AHeap} (hw : WF H) {m : Nat} {es : List (AV × AV)} (h : Mp H m es) {ck : CK} {k v : AV} (hk : keyOk ck k = true) (hf : findK ck k es 0 = some none) :
    ∃ H', wsem0 (.mset ck) [.map (some m), k, v] H = some (.undef, H') ∧ MpTo H H' m (es ++ [(k, v)]) := by
  obtain ⟨st, h1, h2⟩ := h
  exact ⟨_, by simp [wsem0, wsem, h1, hk, hf], Mp.to hw h1 (h2.snoc _)⟩
theorem Mp.mdel {H : AHeap} (hw : WF H) {m : Nat} {es : List (AV × AV)} (h : Mp H m es) {ck : CK} {k : AV} {i : Nat} {x : AV} (hk : keyOk ck k = true) (hf : findK ck k es 0 = some (some (i, x))) :
    ∃ H', wsem0 (.mdel ck) [.map (some m), k] H = some (.undef, H') ∧ MpTo H H' m (es.eraseIdx i) := by
  obtain ⟨st, h1, h2⟩ := h
  exact ⟨_, by simp [wsem0, wsem, h1, hk, hf], Mp.to hw h1 (h2.erase _)⟩
theorem findIdx_nodup : ∀ {l : List Nat} {i b : Nat}, l.Nodup → l[i]? = some b → l.findIdx? (fun (c : Nat) => ((c : Nat) : Int) == (b : Int)) = some i
  | [], i, b, _, h => by simp at h
  | c :: l, 0, b, _, h => by simp at h; subst h; simp [List.findIdx?_cons]
  | c :: l, i + 1, b, hn, h => by
    have h' : l[i]? = some b := by simpa using h
    obtain ⟨h1, h2⟩ := List.nodup_cons.1 hn
    have hne : c ≠ b := fun e => h1 (e ▸ List.mem_of_getElem? h')
    have := findIdx_nodup h2 h'
    rw [List.findIdx?_cons, this]
    simp; omega
/-- An entry that is changed: one that is there. -/
theorem Mp.ment {H : AHeap} (hw : WF H) {m : Nat} {es : List (AV × AV)} (h : Mp H m es) {ck : CK} {k x zero : AV} {i : Nat} (hk : keyOk ck k = true) (hf : findK ck k es 0 = some (some (i, x))) (hi : es[i]? = some (k, x)) :
    ∃ b, wsem0 (.ment ck zero) [.map (some m), k] H = some (.tup [x, .int .i64 b], H) ∧ ∀ v, ∃ H', wsem0 .mst [.map (some m), .int .i64 b, v] H = some (.undef, H') ∧ MpTo H H' m (es.set i (k, v)) := by
  obtain ⟨st, h1, h2⟩ := h
  have hlt : i < st.1.length := by rw [h2.len]; exact (List.getElem?_eq_some_iff.1 hi).1
  have hb : st.1[i]? = some st.1[i] := List.getElem?_eq_getElem hlt
  refine ⟨(st.1[i] : Nat), by simp [wsem0, wsem, h1, hk, hf, hb], fun v => ⟨_, ?_, Mp.to hw h1 (h2.set _ _)⟩⟩
  simp only [wsem0, wsem, h1, findIdx_nodup h2.nodup hb, hi]
theorem Mp.look {H : AHeap} {m : Nat} {es : List (AV × AV)} (h : Mp H m es) {ck : CK} {k zero : AV} {r : Option (Nat × AV)} (hk : keyOk ck k = true) (hf : findK ck k es 0 = some r) :
    rsem (.look ck zero false) [.map (some m), k] H = some (match r with | some (_, v) => v | none => zero) := by
  obtain ⟨st, h1, _⟩ := h
  simp only [rsem, AHeap.ents, h1, hk, hf, if_true]
  cases r <;> simp
end Go.Am
