/- A small machine over abstract values and an abstract heap: its values, its heap, its code and what its code does. Plain definitions; nothing of any program stands here. -/
import GoSem.Step
set_option linter.unusedVariables false
namespace Go.Am
inductive AV where
  | undef
  | bool (b : Bool)
  | int (k : IntKind) (n : Int)
  | str (s : List UInt8)
  | ptr (p : Option (Nat × Nat))
  | slc (p : Option (Nat × Nat)) (sz len : Nat) (cap : Option Nat)
  | map (m : Option Nat)
  | fn (f : Nat) (first caps : List AV)
  | nilFn
  | yld (b : Nat)
  | agg (cs : List AV)
  | tup (vs : List AV)
  | nilI
  | iface (t : Nat) (v : AV)
  deriving Inhabited
/-- The cells of a value. -/
def AV.cells : AV → List AV
  | .agg cs => cs
  | v => [v]
/-- A value that fills one cell. -/
def AV.cell : AV → Bool
  | .undef | .agg _ | .tup _ => false
  | _ => true
mutual
def AV.same : AV → AV → Bool
  | .undef, .undef => true
  | .bool a, .bool b => a == b
  | .int k a, .int l b => decide (k = l) && decide (a = b)
  | .str a, .str b => decide (a = b)
  | .ptr p, .ptr q => decide (p = q)
  | .slc p z m c, .slc q y n d => decide (p = q) && decide (z = y) && decide (m = n) && decide (c = d)
  | .map m, .map n => decide (m = n)
  | .fn f a b, .fn g c d => decide (f = g) && AV.sames a c && AV.sames b d
  | .nilFn, .nilFn => true
  | .yld a, .yld b => decide (a = b)
  | .agg a, .agg b => AV.sames a b
  | .tup a, .tup b => AV.sames a b
  | .nilI, .nilI => true
  | .iface t a, .iface u b => decide (t = u) && AV.same a b
  | _, _ => false
def AV.sames : List AV → List AV → Bool
  | [], [] => true
  | a :: as, b :: bs => AV.same a b && AV.sames as bs
  | _, _ => false
end
mutual
theorem AV.same_eq : ∀ a b : AV, AV.same a b = true → a = b := by
  intro a b h
  cases a <;> cases b <;> simp_all [AV.same]
  · rename_i f a c g b d
    exact ⟨AV.sames_eq _ _ h.1.2, AV.sames_eq _ _ h.2⟩
  · exact AV.sames_eq _ _ h
  · exact AV.sames_eq _ _ h
  · exact AV.same_eq _ _ h.2
theorem AV.sames_eq : ∀ a b : List AV, AV.sames a b = true → a = b := by
  intro a b h
  cases a <;> cases b <;> simp_all [AV.sames]
  exact ⟨AV.same_eq _ _ h.1, AV.sames_eq _ _ h.2⟩
end
mutual
theorem AV.same_refl : ∀ a : AV, AV.same a a = true := by
  intro a
  cases a <;> simp [AV.same]
  · exact ⟨AV.sames_refl _, AV.sames_refl _⟩
  · exact AV.sames_refl _
  · exact AV.sames_refl _
  · exact AV.same_refl _
theorem AV.sames_refl : ∀ a : List AV, AV.sames a a = true := by
  intro a
  cases a <;> simp [AV.sames]
  exact ⟨AV.same_refl _, AV.sames_refl _⟩
end
/-! ### The heap -/
inductive AObj where
  | row (f : Nat) (cells : List AV)
  | map (own : Bool) (es : List (AV × AV)) (st : List Nat × Nat)
  | sit (s : List UInt8) (pos : Nat)
  | mit (m : Option Nat) (since : Nat) (seen : List Nat) (last : Nat)
  | dq (there : Bool)
  deriving Inhabited
/-- Whether it is a row; whether it may be written. -/
def AObj.isRow : AObj → Bool
  | .row .. => true
  | _ => false
def AObj.own : AObj → Bool
  | .row .. => false
  | .map o .. => o
  | _ => true
structure AHeap where
  next : Nat
  blk : Nat → Option AObj
  fam : Nat → Option (Nat × Option Nat)
  typ : Nat → Option Nat
def upd {α : Type} (f : Nat → α) (i : Nat) (x : α) : Nat → α := fun j => if j = i then x else f j
@[simp] theorem upd_same {α : Type} (f : Nat → α) (i : Nat) (x : α) : upd f i x i = x := by simp [upd]
theorem upd_ne {α : Type} (f : Nat → α) (i : Nat) (x : α) {j : Nat} (h : j ≠ i) : upd f i x j = f j := by simp [upd, h]
/-- A row that is still to be read: its family, its cells. -/
def AHeap.row (H : AHeap) (b : Nat) : Option (Nat × List AV) :=
  match H.blk b with
  | some (.row f cs) =>
    match H.fam f with
    | none => some (f, cs)
    | some (c, a) => if c = b ∨ a = some b then some (f, cs) else none
  | _ => none
def AHeap.new (H : AHeap) (cells : List AV) : AHeap :=
  { next := H.next + 1, blk := upd H.blk H.next (some (.row H.next cells)), fam := upd H.fam H.next (some (H.next, none)), typ := H.typ }
def splice (cs : List AV) (off : Nat) (vs : List AV) : List AV := cs.take off ++ vs ++ cs.drop (off + vs.length)
def AHeap.ld (H : AHeap) (b off n : Nat) : Option (List AV) :=
  match H.row b with
  | some (_, cs) => if off + n ≤ cs.length then some ((cs.drop off).take n) else none
  | none => none
def AHeap.st (H : AHeap) (b off : Nat) (vs : List AV) : Option AHeap :=
  match H.row b with
  | some (f, cs) =>
    if (H.fam f).isSome = true ∧ off + vs.length ≤ cs.length ∧ vs.all AV.cell = true then
      some { H with blk := upd H.blk b (some (.row f (splice cs off vs))), fam := upd H.fam f (some (b, none)) }
    else none
  | none => none
/-- The cells of the first n elements of a slice or a string. -/
def AHeap.cellsOf (H : AHeap) (sz : Nat) : AV → Option (List AV)
  | .slc none _ n _ => if n = 0 then some [] else none
  | .slc (some (b, off)) _ n _ => if n = 0 then some [] else H.ld b off (n * sz)
  | .str s => if sz = 1 then some (s.map fun c => .int .u8 c.toNat) else none
  | _ => none
def lenOf : AV → Option Nat
  | .slc _ _ n _ => some n
  | .str s => some s.length
  | _ => none
/-- A slice with what is appended, behind its old cells, in a row of the same family: whatever capacity there was. -/
def AHeap.share (H : AHeap) (f b : Nat) (full : Bool) (cells : List AV) : AHeap :=
  { next := H.next + 1, blk := upd H.blk H.next (some (.row f cells)), fam := upd H.fam f (some (H.next, if full then some b else none)), typ := H.typ }
/-- Appending: 'sv' is the size that the slice's value bears. -/
def AHeap.app (H : AHeap) (sz bytes : Nat) (p : Option (Nat × Nat)) (sv len : Nat) (cap : Option Nat) (m : Nat) (xs : List AV) : Option (AV × AHeap) :=
  if m = 0 then some (.slc p sv len cap, H) else
  if (len + m) * bytes > 2 ^ 46 ∨ len + m > 2 ^ 60 ∨ xs.length ≠ m * sz ∨ xs.all AV.cell = false ∨ sz = 0 then none else
  match p with
  | none => some (.slc (some (H.next, 0)) sz m none, H.new xs)
  | some (b, off) =>
    if len = 0 ∧ cap = some 0 then some (.slc (some (H.next, 0)) sz m none, H.new xs) else
    match H.row b with
    | none => none
    | some (f, cs) =>
      if sv = sz ∧ off + len * sz ≤ cs.length then
        let old := (cs.drop off).take (len * sz)
        let full := decide (off + len * sz = cs.length)
        match cap with
        | some c =>
          if len + m ≤ c then (if (H.fam f).isSome then some (.slc (some (H.next, 0)) sz (len + m) (some c), H.share f b full (old ++ xs)) else none)
          else some (.slc (some (H.next, 0)) sz (len + m) none, H.new (old ++ xs))
        | none => if (H.fam f).isSome then some (.slc (some (H.next, 0)) sz (len + m) none, H.share f b full (old ++ xs)) else none
      else none
/-- A range over a function begins: a place for its rounds' deferred calls, and its record's number. -/
def AHeap.newLoop (H : AHeap) : AHeap := { H with next := H.next + 2, blk := upd H.blk H.next (some (.dq true)) }
/-! ### Operations that do not look at the heap -/
/-- The kind of what is held against nil; the kind of a cell that is compared. -/
inductive NK where | ptr | slc | map | fn
  deriving DecidableEq, Inhabited
inductive CK where | int | bool | str
  deriving DecidableEq, Inhabited
inductive POp where
  | mv
  | pick
  | bin (op : BinOp)
  | eqB (neg : Bool)
  | isNil (k : NK) (neg : Bool)
  | eqCells (neg : Bool) (ks : List CK)
  | un (op : UnOp)
  | conv (k : IntKind)
  | i2s
  | len
  | lenS
  | max
  | min
  | ext (i : Nat)
  | fld (off n : Nat) (agg : Bool)
  | idxS
  | idxA (len sz : Nat) (agg : Bool)
  | slS (lo hi : Bool)
  | sl (sz : Nat) (lo hi mx : Bool)
  | fa (off : Nat)
  | ia (sz : Nat)
  | iap (len sz : Nat)
  | mkF (f nfirst : Nat)
  | nilC
  | bld (zero : List AV) (at_ : List (Nat × Nat))
  | mkI (t : Nat)
  | lit (v : AV)
  | cap
  | fail
  | dfr
  | eqP (neg : Bool)
  | sdata
  deriving Inhabited
def intOp (op : BinOp) (k : IntKind) (a b : Int) : Option AV :=
  match op with
  | .add => some (.int k (k.wrap (a + b)))
  | .sub => some (.int k (k.wrap (a - b)))
  | .mul => some (.int k (k.wrap (a * b)))
  | .quo => if b = 0 then none else some (.int k (k.wrap (a.tdiv b)))
  | .rem => if b = 0 then none else some (.int k (a.tmod b))
  | .and => some (.int k (k.wrap (BitVec.ofInt k.bits a &&& BitVec.ofInt k.bits b).toNat))
  | .or => some (.int k (k.wrap (BitVec.ofInt k.bits a ||| BitVec.ofInt k.bits b).toNat))
  | .xor => some (.int k (k.wrap (BitVec.ofInt k.bits a ^^^ BitVec.ofInt k.bits b).toNat))
  | .andNot => some (.int k (k.wrap (BitVec.ofInt k.bits a &&& ~~~ BitVec.ofInt k.bits b).toNat))
  | .eql => some (.bool (a == b))
  | .neq => some (.bool (a != b))
  | .lss => some (.bool (a < b))
  | .leq => some (.bool (a ≤ b))
  | .gtr => some (.bool (a > b))
  | .geq => some (.bool (a ≥ b))
  | .shl | .shr => none
def shiftOp (op : BinOp) (k : IntKind) (a b : Int) : Option AV :=
  if b < 0 then none else
  match op with
  | .shl => some (.int k (k.wrap (a * 2 ^ (Nat.min b.toNat k.bits))))
  | .shr => some (.int k (a.fdiv (2 ^ (Nat.min b.toNat k.bits))))
  | _ => none
def strOp (op : BinOp) (a b : List UInt8) : Option AV :=
  match op with
  | .add => if ((a.length + b.length : Nat) : Int) > 2 ^ 62 then none else some (.str (a ++ b))
  | .eql => some (.bool (a == b))
  | .neq => some (.bool (!(a == b)))
  | .lss => some (.bool (Op.bytesLess a b))
  | .leq => some (.bool (Op.bytesLess a b || a == b))
  | .gtr => some (.bool (!(Op.bytesLess a b || a == b)))
  | .geq => some (.bool (!Op.bytesLess a b))
  | _ => none
def binOp (op : BinOp) : AV → AV → Option AV
  | .int k a, .int l b =>
    match op with
    | .shl | .shr => shiftOp op k a b
    | _ => if k = l then intOp op k a b else none
  | .str a, .str b => strOp op a b
  | _, _ => none
def isNil : NK → AV → Option Bool
  | .ptr, .ptr p => some p.isNone
  | .slc, .slc p _ _ _ => some p.isNone
  | .map, .map m => some m.isNone
  | .fn, .fn .. => some false
  | .fn, .nilFn => some true
  | _, _ => none
/-- Whether cells are equal, one by one: whole numbers, bools, strings. -/
def eqCells : List CK → List AV → List AV → Option Bool
  | [], [], [] => some true
  | .int :: ks, .int k a :: x, .int l b :: y => if k = l then (if a = b then eqCells ks x y else some false) else none
  | .bool :: ks, .bool a :: x, .bool b :: y => if a = b then eqCells ks x y else some false
  | .str :: ks, .str a :: x, .str b :: y => if a = b then eqCells ks x y else some false
  | _, _, _ => none
def unOp (op : UnOp) : AV → Option AV
  | .int k n =>
    match op with
    | .neg => some (.int k (k.wrap (0 - n)))
    | .xor => some (.int k (k.wrap (BitVec.ofInt k.bits (if k.signed then -1 else k.max) ^^^ BitVec.ofInt k.bits n).toNat))
    | _ => none
  | .bool b => match op with | .not => some (.bool (!b)) | _ => none
  | _ => none
def max2 : AV → AV → Option AV
  | .int k x, .int _ y => some (.int k (if y > x then y else x))
  | _, _ => none
def min2 : AV → AV → Option AV
  | .int k x, .int _ y => some (.int k (if y < x then y else x))
  | _, _ => none
def foldO (f : AV → AV → Option AV) : AV → List AV → Option AV
  | x, [] => some x
  | x, y :: ys => match f x y with | some z => foldO f z ys | none => none
def part (cs : List AV) (off n : Nat) (agg : Bool) : Option AV :=
  if agg then (if off + n ≤ cs.length then some (.agg ((cs.drop off).take n)) else none) else cs[off]?
def natOf : AV → Option Nat
  | .int _ n => if 0 ≤ n then some n.toNat else none
  | _ => none
/-- The bound that stands next among the arguments, where there is one. -/
def bound (there : Bool) (vs : List AV) : Option (Option Nat × List AV) :=
  if there then
    match vs with
    | v :: rest => match natOf v with | some n => some (some n, rest) | none => none
    | [] => none
  else some (none, vs)
def sliceS (lo hi : Bool) (vs : List AV) : Option AV :=
  match vs with
  | .str s :: rest =>
    match bound lo rest with
    | some (l, rest) =>
      match bound hi rest with
      | some (h, []) => let h' := h.getD s.length; let l' := l.getD 0; if l' ≤ h' ∧ h' ≤ s.length then some (.str ((s.take h').drop l')) else none
      | _ => none
    | none => none
  | _ => none
/-- How far a slice may be cut; the capacity behind a cut. -/
def limOf (p : Option (Nat × Nat)) (len : Nat) (cap : Option Nat) : Nat := match p with | none => 0 | some _ => cap.getD len
def capOf (m cap : Option Nat) (l : Nat) : Option Nat := match m with | some q => some (q - l) | none => cap.map (· - l)
def leO (m : Option Nat) (k : Nat) : Bool := match m with | some q => decide (q ≤ k) | none => true
def slice (sz : Nat) (lo hi mx : Bool) (vs : List AV) : Option AV :=
  match vs with
  | .slc p sv len cap :: rest =>
    match bound lo rest with
    | some (l, rest) =>
      match bound hi rest with
      | some (h, rest) =>
        match bound mx rest with
        | some (m, []) =>
          if leO m (limOf p len cap) = true ∧ h.getD len ≤ m.getD (limOf p len cap) ∧ l.getD 0 ≤ h.getD len ∧ (p.isNone = true ∨ sv = sz) then
            some (.slc (p.map fun q => (q.1, q.2 + l.getD 0 * sz)) sv (h.getD len - l.getD 0) (capOf m cap (l.getD 0)))
          else none
        | _ => none
      | none => none
    | none => none
  | _ => none
def fill (cells : List AV) : List (Nat × Nat) → List AV → Option (List AV)
  | [], [] => some cells
  | (off, n) :: at_, v :: vs =>
    if v.cells.length = n ∧ off + n ≤ cells.length ∧ v.cells.all AV.cell = true then fill (splice cells off v.cells) at_ vs else none
  | _, _ => none
def psem (o : POp) (vs : List AV) : Option AV :=
  match o, vs with
  | .mv, [v] => some v
  | .lit v, [] => some v
  | .cap, [.slc p _ _ c] => match p, c with | none, _ => some (.int .i64 0) | some _, some c => some (.int .i64 c) | some _, none => none
  | .pick, [.bool c, a, b] => some (if c then a else b)
  | .bin op, [a, b] => binOp op a b
  | .eqB neg, [.bool a, .bool b] => some (.bool ((a == b) != neg))
  | .isNil k neg, [a] => match isNil k a with | some b => some (.bool (b != neg)) | none => none
  | .eqCells neg ks, [.agg a, .agg b] => match eqCells ks a b with | some r => some (.bool (r != neg)) | none => none
  | .un op, [a] => unOp op a
  | .conv k, [.int _ n] => some (.int k (k.wrap n))
  | .i2s, [.int _ n] => some (.str (Utf8.encode n).data.toList)
  | .len, [.slc _ _ n _] => some (.int .i64 n)
  | .lenS, [.str s] => some (.int .i64 s.length)
  | .max, v :: vs => foldO max2 v vs
  | .min, v :: vs => foldO min2 v vs
  | .ext i, [.tup vs] => vs[i]?
  | .fld off n agg, [.agg cs] => part cs off n agg
  | .idxS, [.str s, .int _ i] => if 0 ≤ i then match s[i.toNat]? with | some c => some (.int .u8 c.toNat) | none => none else none
  | .idxA len sz agg, [.agg cs, .int _ i] => if 0 ≤ i ∧ i < (len : Int) then part cs (i.toNat * sz) sz agg else none
  | .slS lo hi, vs => sliceS lo hi vs
  | .sl sz lo hi mx, vs => slice sz lo hi mx vs
  | .fa off, [.ptr (some (b, o))] => some (.ptr (some (b, o + off)))
  | .ia sz, [.slc (some (b, o)) _ len _, .int _ i] => if 0 ≤ i ∧ i < (len : Int) then some (.ptr (some (b, o + i.toNat * sz))) else none
  | .iap len sz, [.ptr (some (b, o)), .int _ i] => if 0 ≤ i ∧ i < (len : Int) then some (.ptr (some (b, o + i.toNat * sz))) else none
  | .mkF f n, vs => some (.fn f (vs.take n) (vs.drop n))
  | .nilC, [v] =>
    match v with
    | .ptr none | .nilI | .nilFn | .undef => none
    | v => some v
  | .bld zero at_, vs => match fill zero at_ vs with | some cs => some (.agg cs) | none => none
  | .mkI t, [v] => some (.iface t v)
  | .eqP neg, [.ptr p, .ptr q] =>
    match p, q with
    | none, q => some (.bool (q.isNone != neg))
    | some _, none => some (.bool (false != neg))
    | some p, some q => if p = q then some (.bool (true != neg)) else none
  | .sdata, [.slc (some (b, off)) _ len _] => if 0 < len then some (.ptr (some (b, off))) else none
  | .dfr, old :: .fn f first caps :: vs =>
    match old with
    | .undef => some (.tup [.fn f (first ++ vs) caps])
    | .tup ds => some (.tup (.fn f (first ++ vs) caps :: ds))
    | _ => none
  | _, _ => none
/-! ### Operations that read the heap -/
inductive ROp where
  | ld (n : Nat) (agg : Bool)
  | b2s
  | lenM
  | look (ck : CK) (zero : AV) (ok : Bool)
  | slp (len sz : Nat) (lo hi : Bool)
  | p2u
  | ent
  | u2p (t n : Nat)
  deriving Inhabited
def bytesOf : List AV → Option (List UInt8)
  | [] => some []
  | .int .u8 n :: r => match bytesOf r with | some l => some (UInt8.ofNat n.toNat :: l) | none => none
  | _ => none
/-- .. where these are bytes indeed. -/
def bytesS : List AV → Option (List UInt8)
  | [] => some []
  | .int .u8 n :: r => if 0 ≤ n ∧ n < 256 then (match bytesS r with | some l => some (UInt8.ofNat n.toNat :: l) | none => none) else none
  | _ => none
/-- Keys are whole numbers, bools or strings. -/
def keyEq : CK → AV → AV → Option Bool
  | .int, .int k a, .int l b => if k = l then some (a == b) else none
  | .bool, .bool a, .bool b => some (a == b)
  | .str, .str a, .str b => some (a == b)
  | _, _, _ => none
def keyOk : CK → AV → Bool
  | .int, .int _ _ => true
  | .bool, .bool _ => true
  | .str, .str _ => true
  | _, _ => false
def findK (ck : CK) (k : AV) : List (AV × AV) → Nat → Option (Option (Nat × AV))
  | [], _ => some none
  | (a, v) :: r, i =>
    match keyEq ck k a with
    | some true => some (some (i, v))
    | some false => findK ck k r (i + 1)
    | none => none
def AHeap.ents (H : AHeap) : Option Nat → Option (List (AV × AV))
  | none => some []
  | some m => match H.blk m with | some (.map _ es _) => some es | _ => none
def rsem (o : ROp) (vs : List AV) (H : AHeap) : Option AV :=
  match o, vs with
  | .ld n agg, [.ptr (some (b, off))] =>
    match H.ld b off n with
    | some cs => if agg then some (.agg cs) else cs[0]?
    | none => none
  | .b2s, [v] => match v with
    | .slc .. => match H.cellsOf 1 v with | some cs => (match bytesOf cs with | some l => some (.str l) | none => none) | none => none
    | _ => none
  | .lenM, [.map m] => match H.ents m with | some es => some (.int .i64 es.length) | none => none
  | .look ck zero ok, [.map m, k] =>
    match H.ents m with
    | none => none
    | some es =>
      if keyOk ck k then
        match findK ck k es 0 with
        | some (some (_, v)) => some (if ok then .tup [v, .bool true] else v)
        | some none => some (if ok then .tup [zero, .bool false] else zero)
        | none => none
      else none
  | .p2u, [.ptr (some (b, off))] => match H.ld b off 1 with | some _ => some (.ptr (some (b, off))) | none => none
  | .u2p t n, [.ptr (some (b, 0))] => if H.typ b = some t then (match H.ld b 0 n with | some _ => some (.ptr (some (b, 0))) | none => none) else none
  | .ent, [.ptr (some (b, 0))] =>
    match H.blk b with
    | some (.mit (some m) _ seen last) =>
      match seen.getLast?, H.blk m with
      | some i, some (.map _ es st) => if st.2 = last then (match (st.1.zip es).find? (fun e => e.1 == i) with | some e => some (.tup [e.2.1, e.2.2]) | none => none) else none
      | _, _ => none
    | _ => none
  | .slp len sz lo hi, .ptr (some (b, off)) :: rest =>
    match bound lo rest with
    | some (l, rest) =>
      match bound hi rest with
      | some (h, []) =>
        match H.row b with
        | some (f, cs) =>
          if (H.fam f).isSome = true ∧ off + len * sz ≤ cs.length ∧ l.getD 0 ≤ h.getD len ∧ h.getD len ≤ len then
            some (.slc (some (b, off + l.getD 0 * sz)) sz (h.getD len - l.getD 0) (some (len - l.getD 0)))
          else none
        | none => none
      | _ => none
    | none => none
  | _, _ => none
/-! ### Operations that write -/
inductive WOp where
  | box
  | st (n : Nat)
  | bsl (sz len : Nat) (zero : List AV) (at_ : List (Nat × Nat))
  | mks (bytes : Nat) (zero : List AV)
  | app (sz bytes : Nat)
  | grow (sz bytes : Nat) (zero : List AV)
  | cpy (sz : Nat)
  | s2b
  | call
  | mkM
  | mset (ck : CK)
  | mdel (ck : CK)
  | ment (ck : CK) (zero : AV)
  | mst
  | rngS
  | nxtS
  | boxT (t : Nat)
  | appT (t sz bytes : Nat)
  | ustr (t : Nat)
  deriving Inhabited
abbrev CallF := Nat → List AV → AHeap → Option (AV × AHeap)
def AHeap.setObj (H : AHeap) (m : Nat) (o : AObj) : AHeap := { H with blk := upd H.blk m (some o) }
def AHeap.newObj (H : AHeap) (o : AObj) : AHeap := { H with next := H.next + 1, blk := upd H.blk H.next (some o) }
def AHeap.setMap (H : AHeap) (m : Nat) (es : List (AV × AV)) (st : List Nat × Nat) : AHeap := H.setObj m (.map true es st)
/-- Of which type a row's block is, where this is known. -/
def AHeap.tag (H : AHeap) (b t : Nat) : AHeap := { H with typ := upd H.typ b (some t) }
def AHeap.typed (H : AHeap) (t : Nat) : Option (Nat × Nat) → Bool
  | none => true
  | some (b, off) => decide (off = 0) && decide (H.typ b = some t)
def AHeap.tagA (H : AHeap) (t : Nat) (p : Option (Nat × Nat)) (H' : AHeap) : AHeap :=
  if H.next < H'.next ∧ H.typed t p = true then H'.tag H.next t else H'
/-- A family's rows are not to be seen any more. -/
def AHeap.kill (H : AHeap) (f : Nat) : AHeap := { H with next := H.next + 1, fam := upd H.fam f (some (H.next, none)) }
/-- A function that no program has: yield is called. -/
def yldF : Nat := 999997
def wsem (C : CallF) (o : WOp) (vs : List AV) (H : AHeap) : Option (AV × AHeap) :=
  match o, vs with
  | .box, [v] => if v.cells.all AV.cell then some (.ptr (some (H.next, 0)), H.new v.cells) else none
  | .st n, [.ptr (some (b, off)), v] => if v.cells.length = n then (match H.st b off v.cells with | some H' => some (.undef, H') | none => none) else none
  | .bsl sz len zero at_, vs => match fill zero at_ vs with
    | some cs => if cs.length = len * sz ∧ sz ≠ 0 then some (.slc (some (H.next, 0)) sz len (some len), H.new cs) else none
    | none => none
  | .mks bytes zero, [.int _ l, .int _ c] =>
    if 0 ≤ l ∧ l ≤ c ∧ c * bytes ≤ 2 ^ 46 ∧ zero.length ≠ 0 ∧ zero.all AV.cell = true ∧ c ≤ 2 ^ 62 then
      some (.slc (some (H.next, 0)) zero.length l.toNat (some c.toNat), H.new (List.replicate c.toNat zero).flatten)
    else none
  | .app sz bytes, [.slc p sv len cap, x] =>
    match lenOf x, H.cellsOf sz x with
    | some m, some xs => H.app sz bytes p sv len cap m xs
    | _, _ => none
  | .grow sz bytes zero, [.slc p sv len cap, .int _ n] => if 0 ≤ n ∧ n * bytes ≤ 2 ^ 46 ∧ n ≤ 2 ^ 60 then H.app sz bytes p sv len cap n.toNat (List.replicate n.toNat zero).flatten else none
  | .cpy sz, [.slc p sv dlen cap, x] =>
    match lenOf x, H.cellsOf sz x with
    | some m, some xs =>
      let n := Nat.min m dlen
      if n = 0 then some (.int .i64 0, H) else
      match p with
      | some (b, off) => if n * sz ≤ xs.length then (match H.st b off (xs.take (n * sz)) with | some H' => some (.int .i64 n, H') | none => none) else none
      | none => none
    | _, _ => none
  | .s2b, [.str s] => if s.length ≤ 2 ^ 46 then some (.slc (some (H.next, 0)) 1 s.length none, H.new (s.map fun c => .int .u8 c.toNat)) else none
  | .call, .fn f first caps :: args => C f (first ++ args ++ caps) H
  | .call, .yld b :: args => C yldF (.yld b :: args) H
  | .mkM, [] => some (.map (some H.next), H.newObj (.map true [] ([], 0)))
  | .mset ck, [.map (some m), k, v] =>
    match H.blk m with
    | some (.map true es st) =>
      if keyOk ck k then
        match findK ck k es 0 with
        | some (some (i, _)) => some (.undef, H.setMap m (es.set i (k, v)) st)
        | some none => some (.undef, H.setMap m (es ++ [(k, v)]) (st.1 ++ [st.2], st.2 + 1))
        | none => none
      else none
    | _ => none
  | .mdel ck, [.map (some m), k] =>
    match H.blk m with
    | some (.map true es st) =>
      if keyOk ck k then
        match findK ck k es 0 with
        | some (some (i, _)) => some (.undef, H.setMap m (es.eraseIdx i) (st.1.eraseIdx i, st.2))
        | some none => some (.undef, H.setMap m es st)
        | none => none
      else none
    | _ => none
  | .ment ck zero, [.map (some m), k] =>
    match H.blk m with
    | some (.map true es st) =>
      if keyOk ck k then
        match findK ck k es 0 with
        | some (some (i, v)) => match st.1[i]? with | some b => some (.tup [v, .int .i64 b], H) | none => none
        | some none => some (.tup [zero, .int .i64 st.2], H.setMap m (es ++ [(k, zero)]) (st.1 ++ [st.2], st.2 + 1))
        | none => none
      else none
    | _ => none
  | .mst, [.map (some m), .int _ b, v] =>
    match H.blk m with
    | some (.map true es st) =>
      match st.1.findIdx? (fun (c : Nat) => ((c : Nat) : Int) == b) with
      | some i => match es[i]? with | some (k, _) => some (.undef, H.setMap m (es.set i (k, v)) st) | none => none
      | none => none
    | _ => none
  | .boxT t, [v] => if v.cells.all AV.cell then some (.ptr (some (H.next, 0)), (H.new v.cells).tag H.next t) else none
  | .appT t sz bytes, [.slc p sv len cap, x] =>
    match lenOf x, H.cellsOf sz x with
    | some m, some xs => match H.app sz bytes p sv len cap m xs with | some (v, H') => some (v, H.tagA t p H') | none => none
    | _, _ => none
  | .ustr t, [.ptr (some (b, 0)), .int .i64 n] =>
    if 0 < n ∧ H.typ b = some t then
      match H.row b with
      | some (f, cs) =>
        if (H.fam f).isSome = true ∧ n.toNat ≤ cs.length ∧ n ≤ 2 ^ 62 then (match bytesS (cs.take n.toNat) with | some l => some (.str l, H.kill f) | none => none) else none
      | none => none
    else none
  | .rngS, [.str s] => some (.ptr (some (H.next, 0)), H.newObj (.sit s 0))
  | .nxtS, [.ptr (some (b, 0))] =>
    match H.blk b with
    | some (.sit s pos) =>
      if pos < s.length then
        let r := Utf8.decode ⟨⟨s⟩⟩ pos
        some (.tup [.bool true, .int .i64 pos, .int .i32 r.1], H.setObj b (.sit s (pos + r.2)))
      else some (.tup [.bool false], H)
    | _ => none
  | _, _ => none
inductive AOpc where
  | p (o : POp)
  | r (o : ROp)
  | w (o : WOp)
  deriving Inhabited
def AOpc.isW : AOpc → Bool | .w _ => true | _ => false
def AOpc.isR : AOpc → Bool | .r _ => true | _ => false
def osem (C : CallF) (o : AOpc) (vs : List AV) (H : AHeap) : Option (AV × AHeap) :=
  match o with
  | .p o => match psem o vs with | some v => some (v, H) | none => none
  | .r o => match rsem o vs H with | some v => some (v, H) | none => none
  | .w o => wsem C o vs H
/-! ### Code -/
inductive AOpd where
  | t (i : Nat)
  | c (v : AV)
  deriving Inhabited
structure AOper where
  dst : Option Nat
  opc : AOpc
  args : List AOpd
  guard : Option (Nat × Bool)
  deps : List Nat
  deriving Inhabited
/-- Where a frame's deferred calls are kept. -/
def dfrT : Nat := 1048576
inductive ACode where
  | skip
  | region (ops : List AOper) (draw : Bool) (floats : List (Nat × Nat))
  | seq (a b : ACode)
  | cond (c : AOpd) (a b : ACode)
  | block (id : Nat) (b : ACode)
  | loop (b : ACode)
  | exit (id : Nat)
  | ret
  | rngf (g : AOpd) (ps : List Nat) (asg body : ACode)
  deriving Inhabited
inductive ARes where
  | tmp (t : Nat)
  | cell (t n : Nat) (agg : Bool)
  deriving Inhabited
structure AFunc where
  body : ACode
  results : List ARes
  deriving Inhabited
abbrev Env := Nat → AV
abbrev AState := Env × AHeap
def Env.ev (e : Env) : AOpd → AV
  | .t i => e i
  | .c v => v
def Env.put (e : Env) : Option Nat → AV → Env
  | none, _ => e
  | some d, v => upd e d v
def wanted (e : Env) : Option (Nat × Bool) → Option Bool
  | none => some true
  | some (t, b) => match e t with | .bool x => some (x == b) | .undef => none | _ => some false
/-- One operation: the value, whether it ran, the heap behind it. -/
def step1 (C : CallF) (o : AOper) (s : AState) : Option (AV × AHeap) :=
  match wanted s.1 o.guard with
  | some true => osem C o.opc (o.args.map s.1.ev) s.2
  | some false => some (.tup [], s.2)
  | none => none
def aop (C : CallF) (o : AOper) (s : AState) : Option AState :=
  match step1 C o s with
  | some (v, H) => some (s.1.put o.dst v, H)
  | none => none
def aops (C : CallF) : List AOper → AState → Option AState
  | [], s => some s
  | o :: os, s => match aop C o s with | some s' => aops C os s' | none => none
/-- The states ahead of each operation, in the order of the text, and the last one. -/
def atrace (C : CallF) : List AOper → AState → Option (List AState)
  | [], s => some [s]
  | o :: os, s => match aop C o s with
    | some s' => match atrace C os s' with | some l => some (s :: l) | none => none
    | none => none
/-- A floating reader reads the same ahead of a writer and behind it. -/
def floatOk (ops : List AOper) (tr : List AState) (f : Nat × Nat) : Bool :=
  match ops[f.1]?, tr[f.1]?, tr[f.2]?, tr[f.2 + 1]? with
  | some o, some s, some wb, some wa =>
    match o.opc with
    | .r ro =>
      if wanted s.1 o.guard = some true then
        match rsem ro (o.args.map s.1.ev) s.2, rsem ro (o.args.map s.1.ev) wb.2, rsem ro (o.args.map s.1.ev) wa.2 with
        | some v, some x, some y => AV.same x v && AV.same y v
        | _, _, _ => false
      else true
    | _ => false
  | _, _, _, _ => false
def aregion (C : CallF) (ops : List AOper) (floats : List (Nat × Nat)) (s : AState) : Option AState :=
  match floats with
  | [] => aops C ops s
  | _ => match atrace C ops s with
    | some tr => if floats.all (floatOk ops tr) then tr.getLast? else none
    | none => none
inductive AExit where
  | normal
  | exit (id : Nat)
  | ret
  deriving DecidableEq
def ares (e : Env) (H : AHeap) : List ARes → Option (List AV)
  | [] => some []
  | .tmp t :: r => match ares e H r with | some l => some (e t :: l) | none => none
  | .cell t n agg :: r =>
    match e t with
    | .ptr (some (b, off)) =>
      match H.ld b off n, ares e H r with
      | some cs, some l => if agg then some (.agg cs :: l) else (match cs[0]? with | some v => some (v :: l) | none => none)
      | _, _ => none
    | _ => none
def one : List AV → AV
  | [v] => v
  | vs => .tup vs
/-- What yield does: a round, its parameters set. -/
def putAll (e : Env) : List Nat → List AV → Env
  | p :: ps, v :: vs => putAll (upd e p v) ps vs
  | _, _ => e
def roundF (A B : AState → Option (AExit × AState)) (ps : List Nat) (e : Env) (vs : List AV) (H : AHeap) : Option (AV × AHeap) :=
  if vs.length = ps.length then
    match A (upd (putAll e ps vs) dfrT .undef, H) with
    | some (.normal, s1) => match B s1 with | some (.normal, s2) => some (.bool true, s2.2) | _ => none
    | _ => none
  else none
def yldC (C : CallF) (y : Nat) (R : List AV → AHeap → Option (AV × AHeap)) : CallF := fun f args H =>
  if f = yldF then (match args with | .yld b :: vs => if b = y then R vs H else none | _ => none) else C f args H
/-- A mark among the deferred calls. -/
def pushM (v : AV) (b : Nat) : AV := match v with | .tup ds => .tup (.tup [.yld b] :: ds) | _ => .tup [.tup [.yld b]]
/-- The function that was ranged over has ended. -/
def iterEnd (res : List ARes) (e : Env) (b : Nat) : Option (AExit × AState) → Option (AExit × AState)
  | some (.exit _, _) => none
  | some (_, s1) => match s1.1 dfrT with
    | .undef => (match ares s1.1 s1.2 res with | some _ => some (.normal, (upd e dfrT (pushM (e dfrT) b), s1.2)) | none => none)
    | _ => none
  | none => none
def acode (F : Nat → Option AFunc) : CallF → Nat → ACode → AState → Option (AExit × AState)
  | _, 0, _, _ => none
  | C, n + 1, .skip, s => some (.normal, s)
  | C, n + 1, .region ops _ floats, s => match aregion C ops floats s with | some s' => some (.normal, s') | none => none
  | C, n + 1, .seq a b, s =>
    match acode F C n a s with
    | some (.normal, s') => acode F C n b s'
    | r => r
  | C, n + 1, .cond c a b, s =>
    match s.1.ev c with
    | .bool true => acode F C n a s
    | .bool false => acode F C n b s
    | _ => none
  | C, n + 1, .block id b, s =>
    match acode F C n b s with
    | some (.exit i, s') => if i = id then some (.normal, s') else some (.exit i, s')
    | r => r
  | C, n + 1, .loop b, s =>
    match acode F C n b s with
    | some (.normal, s') => acode F C n (.loop b) s'
    | r => r
  | C, n + 1, .exit id, s => some (.exit id, s)
  | C, n + 1, .ret, s => some (.ret, s)
  | C, n + 1, .rngf g ps asg body, s =>
    match s.1.ev g with
    | .fn f first caps =>
      match F f with
      | some fn => iterEnd fn.results s.1 s.2.next
          (acode F (yldC C (s.2.next + 1) (roundF (acode F C n asg) (acode F C n body) ps s.1)) n fn.body (fun i => if i = dfrT then .undef else (first ++ [AV.yld (s.2.next + 1)] ++ caps).getD i .undef, s.2.newLoop))
      | none => none
    | _ => none
/-- A function that runs as a deferred call: it defers nothing itself. -/
def dcall (F : Nat → Option AFunc) (C : CallF) (n : Nat) (f : Nat) (args : List AV) (H : AHeap) : Option AHeap :=
  match F f with
  | none => none
  | some fn =>
    match acode F C n fn.body (fun i => if i = dfrT then .undef else args.getD i .undef, H) with
    | some (.normal, s) | some (.ret, s) =>
      match s.1 dfrT with
      | .undef => match ares s.1 s.2 fn.results with | some _ => some s.2 | none => none
      | _ => none
    | _ => none
/-- The deferred calls, the last one first. -/
def rundL (D : Nat → List AV → AHeap → Option AHeap) : List AV → AHeap → Option AHeap
  | [], H => some H
  | .fn f as caps :: ds, H => match D f (as ++ caps) H with | some H' => rundL D ds H' | none => none
  | .tup [.yld b] :: ds, H => match H.blk b with | some (.dq true) => rundL D ds (H.setObj b (.dq false)) | _ => none
  | _ :: _, _ => none
theorem rundL_cons {D : Nat → List AV → AHeap → Option AHeap} {v : AV} {l : List AV} {H r : AHeap} (h : rundL D (v :: l) H = some r) :
    (∃ f as caps H1, v = .fn f as caps ∧ D f (as ++ caps) H = some H1 ∧ rundL D l H1 = some r) ∨ (∃ b, v = .tup [.yld b] ∧ H.blk b = some (.dq true) ∧ rundL D l (H.setObj b (.dq false)) = some r) := by
  cases v with
  | fn f as caps =>
    simp only [rundL] at h
    cases h1 : D f (as ++ caps) H with
    | none => simp [h1] at h
    | some H1 => rw [h1] at h; exact .inl ⟨f, as, caps, H1, rfl, h1, h⟩
  | tup vs =>
    cases vs with
    | nil => simp [rundL] at h
    | cons a vs =>
      cases vs with
      | cons b vs => cases a <;> simp [rundL] at h
      | nil =>
        cases a <;> try (simp [rundL] at h; done)
        rename_i b
        simp only [rundL] at h
        split at h
        · rename_i hb; exact .inr ⟨b, rfl, hb, h⟩
        · cases h
  | _ => simp [rundL] at h
def rund (D : Nat → List AV → AHeap → Option AHeap) (v : AV) (H : AHeap) : Option AHeap :=
  match v with
  | .undef => some H
  | .tup ds => rundL D ds H
  | _ => none
/-- What is told of a function at some arguments. -/
def told (o : Option (List AV → AHeap → Option (AV × AHeap))) (args : List AV) (H : AHeap) : Option (AV × AHeap) := match o with | some p => p args H | none => none
/-- What the functions of a program do: of some it is told at some arguments, else they run. -/
def acall (F : Nat → Option AFunc) (prims : Nat → Option (List AV → AHeap → Option (AV × AHeap))) : Nat → CallF
  | 0 => fun _ _ _ => none
  | n + 1 => fun f args H =>
    match told (prims f) args H with
    | some r => some r
    | none =>
      match F f with
      | none => none
      | some fn =>
        match acode F (acall F prims n) (n + 1) fn.body (fun i => if i = dfrT then .undef else args.getD i .undef, H) with
        | some (.normal, s) | some (.ret, s) =>
          match rund (dcall F (acall F prims n) n) (s.1 dfrT) s.2 with
          | some H' => match ares s.1 H' fn.results with | some vs => some (one vs, H') | none => none
          | none => none
        | _ => none
end Go.Am
