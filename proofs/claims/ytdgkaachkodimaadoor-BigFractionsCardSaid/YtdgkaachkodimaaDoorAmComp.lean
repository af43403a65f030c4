/- From the model's code to the small machine's code: a function that a program's types decide; it gives nothing where an operation is none of those that the small machine has. -/
import Derived.Test.YtdgkaachkodimaaDoorAmDefs
set_option linter.unusedVariables false
namespace Go.Am
def mapO {α β : Type} (f : α → Option β) : List α → Option (List β)
  | [] => some []
  | x :: xs => match f x, mapO f xs with | some y, some ys => some (y :: ys) | _, _ => none
/-- A constant of one cell. -/
def ofFlat : Value → Option AV
  | .bool b => some (.bool b)
  | .int k n => some (.int k n)
  | .string s => some (.str s.data.toList)
  | .pointer none => some (.ptr none)
  | .slice none 0 0 => some (.slc none 0 0 none)
  | .map none => some (.map none)
  | .nilFunc => some .nilFn
  | .nilIface => some .nilI
  | _ => none
def ofValue : Value → Option AV
  | .agg cs => match mapO ofFlat cs.toList with | some l => some (.agg l) | none => none
  | v => ofFlat v
section
variable (P : Program) (G : Nat → Nat)
def opd : Operand → Option AOpd
  | .tmp t => if t < dfrT then some (.t t) else none
  | .const v => match ofValue v with | some v => some (.c v) | none => none
  | .func f => some (.c (.fn (G f) [] []))
  | .global _ => none
def zeroOf (t : TypeId) : Option AV := match P.info? t with | some i => (match i.zero with | some z => ofValue z | none => none) | none => none
def sizeT (t : TypeId) : Option Nat := match P.info? t with | some i => some i.size | none => none
def bytesT (t : TypeId) : Option Nat := match P.info? t with | some i => some i.bytes | none => none
def aggT (t : TypeId) : Option Bool := match P.underlying t with | some (.struct _) | some (.array _ _) => some true | some _ => some false | none => none
def isNilC (k : NK) : Operand → Bool
  | .const (.pointer none) => k == .ptr
  | .const (.slice none 0 0) => k == .slc
  | .const (.map none) => k == .map
  | .const .nilFunc => k == .fn
  | _ => false
/-- The kind of a cell that is compared. -/
def ckT (t : TypeId) : Option CK := match P.underlying t with | some (.int _) => some .int | some .bool => some .bool | some .string => some .str | _ => none
def place1 (f : Field) : Option (Nat × Nat) := match sizeT P f.type with | some n => some (f.offset, n) | none => none
def places (fields : Array Field) : Option (List (Nat × Nat)) := mapO (place1 P) fields.toList
def opds (xs : List Operand) : Option (List AOpd) := mapO (opd G) xs
def with1 (o : AOpc) (x : Operand) : Option (AOpc × List AOpd) := match opd G x with | some x => some (o, [x]) | none => none
def with2 (o : AOpc) (x y : Operand) : Option (AOpc × List AOpd) := match opd G x, opd G y with | some x, some y => some (o, [x, y]) | _, _ => none
def withs (o : AOpc) (xs : List Operand) : Option (AOpc × List AOpd) := match opds G xs with | some xs => some (o, xs) | none => none
def optO (o : Option Operand) : List Operand := match o with | some x => [x] | none => []
/-- A struct's fields as scalars in a row: no blank field, no hole. -/
def flatFields (n : Nat) : List Field → Option (List CK)
  | [] => some []
  | f :: fs => if f.name ≠ "_" ∧ f.offset = n then (match ckT P f.type, flatFields (n + 1) fs with | some k, some ks => some (k :: ks) | _, _ => none) else none
def structFlat (t : TypeId) : Option (List CK) :=
  match P.underlying t with
  | some (.struct fs) => if P.stoodInHeld t = false ∧ P.eqGuardType P.depth t = false then flatFields P 0 fs.toList else none
  | some (.array n e) => if P.eqGuardType P.depth t = false ∧ sizeT P e = some 1 then (match ckT P e with | some k => some (List.replicate n k) | none => none) else none
  | _ => none
def nilKind (t : TypeId) : Option NK :=
  match P.underlying t with
  | some (.slice _) => some .slc | some (.map _ _) => some .map | some (.func ..) => some .fn | some (.pointer _) => some .ptr
  | _ => none
/-- A pointer's type, to a type that is known. -/
def ptrT (t : TypeId) : Bool := match P.underlying t with | some (.pointer e) => (sizeT P e).isSome | _ => false
def compileBin (op : BinOp) (t : TypeId) (x y : Operand) : Option (AOpc × List AOpd) :=
  match op with
  | .eql | .neq =>
    match P.underlying t with
    | some (.int _) | some .string => with2 G (.p (.bin op)) x y
    | some .bool => with2 G (.p (.eqB (op == .neq))) x y
    | some (.struct _) | some (.array _ _) => match structFlat P t with | some ks => with2 G (.p (.eqCells (op == .neq) ks)) x y | none => none
    | _ => match nilKind P t with
      | some k => if isNilC k y then with1 G (.p (.isNil k (op == .neq))) x else if isNilC k x then with1 G (.p (.isNil k (op == .neq))) y else if k = .ptr ∧ ptrT P t = true then with2 G (.p (.eqP (op == .neq))) x y else none
      | none => none
  | _ => with2 G (.p (.bin op)) x y
def compileConv (s d : TypeId) (x : Operand) : Option (AOpc × List AOpd) :=
  match P.underlying s, P.underlying d with
  | some (.int _), some (.int k) => with1 G (.p (.conv k)) x
  | some (.int _), some .string => with1 G (.p .i2s) x
  | some .string, some .string => with1 G (.p (.slS false false)) x
  | some .string, some (.slice e) => match P.underlying e with | some (.int .u8) => with1 G (.w .s2b) x | _ => none
  | some .unsafePointer, some (.pointer e) => match sizeT P e with | some n => if n = 0 then none else with1 G (.r (.u2p e n)) x | none => none
  | some (.pointer e), some .unsafePointer => match sizeT P e with | some n => if n = 0 then none else with1 G (.r .p2u) x | none => none
  | some (.slice e), some .string => match P.underlying e with | some (.int .u8) => with1 G (.r .b2s) x | _ => none
  | _, _ => none
/-- Bytes of slices whose blocks' types are known: these may become strings in their place. -/
def byteT (e : TypeId) : Bool := match P.info? e with | some i => (match i.desc with | .int .u8 => true | _ => false) | none => false
def compileCall (c : Call) : Option (AOpc × List AOpd) :=
  match c.callee with
  | .value f => withs G (.w .call) (f :: c.args.toList)
  | .invoke _ _ => none
  | .builtin b =>
    match b, c.argTypes.toList, c.args.toList with
    | .len, t :: _, x :: _ =>
      match P.underlying t with
      | some .string => with1 G (.p .lenS) x
      | some (.slice _) => with1 G (.p .len) x
      | some (.array n _) => some (.p (.lit (.int .i64 n)), [])
      | some (.map _ _) => with1 G (.r .lenM) x
      | _ => none
    | .cap, t :: _, x :: _ => match P.underlying t with | some (.slice _) => with1 G (.p .cap) x | _ => none
    | .max, _, x :: xs => withs G (.p .max) (x :: xs)
    | .min, _, x :: xs => withs G (.p .min) (x :: xs)
    | .append, t :: u :: _, x :: y :: _ =>
      match P.underlying t with
      | some (.slice e) =>
        match sizeT P e, bytesT P e, P.underlying u, zeroOf P e with
        | some sz, some by_, some (.slice _), some z => if sz = z.cells.length ∧ sz ≠ 0 then with2 G (.w (if byteT P e = true then .appT e sz by_ else .app sz by_)) x y else none
        | some sz, some by_, some .string, some z => if sz = 1 ∧ z.cells.length = 1 then with2 G (.w (if byteT P e = true then .appT e sz by_ else .app sz by_)) x y else none
        | some sz, some by_, some (.int _), some z => if sz = z.cells.length ∧ sz ≠ 0 then with2 G (.w (.grow sz by_ z.cells)) x y else none
        | _, _, _, _ => none
      | _ => none
    | .copy, t :: u :: _, x :: y :: _ =>
      match P.underlying t with
      | some (.slice e) =>
        match sizeT P e, P.underlying u with
        | some sz, some (.slice _) => if sz ≠ 0 then with2 G (.w (.cpy sz)) x y else none
        | some sz, some .string => if sz = 1 then with2 G (.w (.cpy sz)) x y else none
        | _, _ => none
      | _ => none
    | .unsafeSliceData, _, [x] => with1 G (.p .sdata) x
    | .unsafeString, t :: _, [x, y] => match P.underlying t with | some (.pointer e) => (if sizeT P e = some 1 then with2 G (.w (.ustr e)) x y else none) | _ => none
    | .delete, t :: _, x :: y :: _ => match P.underlying t with | some (.map k _) => (match ckT P k with | some ck => with2 G (.w (.mdel ck)) x y | none => none) | _ => none
    | _, _, _ => none
/-- Two functions that no program has: a range over a map begins, goes on. -/
def rngF : Nat := 999998
def nxtF : Nat := 999999
def withM (n : Nat) (x : Operand) : Option (AOpc × List AOpd) := match opd G x with | some x' => some (.w .call, [.c (.fn n [] []), x']) | none => none
/-- A strings.Builder. -/
def builderT (e : TypeId) : Bool := match P.info? e with | some i => (match i.desc with | .named n _ => n == "strings.Builder" | _ => false) | none => false
def compileOp0 (o : Oper) : Option (AOpc × List AOpd) :=
  match o.op with
  | .move x | .assign x => with1 G (.p .mv) x
  | .pick c a b => withs G (.p .pick) [c, a, b]
  | .alloc e => match zeroOf P e with | some z => some (.w (if builderT P e = true then .boxT e else .box), [.c z]) | none => none
  | .box _ x => with1 G (.w .box) x
  | .build t parts =>
    match zeroOf P t, P.underlying t with
    | some (.agg zs), some (.struct fields) => match places P fields with
      | some pls => (match mapO (fun p => pls[p.1]?) parts.toList with | some pl => withs G (.p (.bld zs pl)) (parts.toList.map (·.2)) | none => none)
      | none => none
    | some (.agg zs), some (.array _ e) => match sizeT P e with | some n => withs G (.p (.bld zs (parts.toList.map fun p => (p.1 * n, n)))) (parts.toList.map (·.2)) | none => none
    | _, _ => none
  | .buildSlice t len parts =>
    match P.underlying t with
    | some (.slice e) =>
      match sizeT P e, zeroOf P e with
      | some n, some z => if n = z.cells.length ∧ n ≠ 0 ∧ len * n ≤ 2 ^ 24 then withs G (.w (.bsl n len (List.replicate len z.cells).flatten (parts.toList.map fun p => (p.1 * n, n)))) (parts.toList.map (·.2)) else none
      | _, _ => none
    | _ => none
  | .load t a => match sizeT P t, aggT P t with | some n, some g => if g ∨ n = 1 then with1 G (.r (.ld n g)) a else none | _, _ => none
  | .store t a x => match sizeT P t with | some n => with2 G (.w (.st n)) a x | none => none
  | .nilCheck x => with1 G (.p .nilC) x
  | .binOp op t x y _ => compileBin P G op t x y
  | .unOp op _ x => with1 G (.p (.un op)) x
  | .convert s d x => compileConv P G s d x
  | .makeFunc (.func f) first caps => withs G (.p (.mkF (G f) first.size)) (first.toList ++ caps.toList)
  | .makeMap _ none => some (.w .mkM, [])
  | .makeSlice t l c =>
    match P.underlying t with
    | some (.slice e) =>
      match bytesT P e, zeroOf P e, sizeT P e with
      | some by_, some z, some n => if n = z.cells.length then with2 G (.w (.mks by_ z.cells)) l c else none
      | _, _, _ => none
    | _ => none
  | .slice t x lo hi mx =>
    match P.underlying t with
    | some .string => if mx.isSome then none else withs G (.p (.slS lo.isSome hi.isSome)) (x :: optO lo ++ optO hi)
    | some (.slice e) => match sizeT P e with | some n => if mx.isSome && hi.isNone then none else withs G (.p (.sl n lo.isSome hi.isSome mx.isSome)) (x :: optO lo ++ optO hi ++ optO mx) | none => none
    | some (.array len e) => match sizeT P e with | some n => if mx.isSome then none else withs G (.r (.slp len n lo.isSome hi.isSome)) (x :: optO lo ++ optO hi) | none => none
    | _ => none
  | .fieldAddr s x f =>
    match P.underlying s with
    | some (.struct fields) => match fields[f]? with
      | some fd => match sizeT P fd.type with | some n => if n = 0 then none else with1 G (.p (.fa fd.offset)) x | none => none
      | none => none
    | _ => none
  | .field t x f =>
    match P.underlying t with
    | some (.struct fields) => match fields[f]? with
      | some fd => match sizeT P fd.type, aggT P fd.type with | some n, some g => with1 G (.p (.fld fd.offset n g)) x | _, _ => none
      | none => none
    | _ => none
  | .indexAddr t x i =>
    match P.underlying t with
    | some (.slice e) => match sizeT P e with | some n => with2 G (.p (.ia n)) x i | none => none
    | some (.array len e) => match sizeT P e with | some n => with2 G (.p (.iap len n)) x i | none => none
    | _ => none
  | .index t x i =>
    match P.underlying t with
    | some .string => with2 G (.p .idxS) x i
    | some (.array len e) => match sizeT P e, aggT P e with | some n, some g => with2 G (.p (.idxA len n g)) x i | _, _ => none
    | _ => none
  | .lookup t x i ok =>
    match P.underlying t with
    | some (.map k e) => match zeroOf P e, ckT P k with | some z, some ck => with2 G (.r (.look ck z ok)) x i | _, _ => none
    | _ => none
  | .mapEntry t m k =>
    match P.underlying t with
    | some (.map kt e) => match zeroOf P e, ckT P kt with | some z, some ck => with2 G (.w (.ment ck z)) m k | _, _ => none
    | _ => none
  | .entryStore _ m s x => withs G (.w .mst) [m, s, x]
  | .range t x => match P.underlying t with | some .string => with1 G (.w .rngS) x | some (.map _ _) => withM G rngF x | _ => none
  | .next it true => with1 G (.w .nxtS) it
  | .next it false => withM G nxtF it
  | .entry it => with1 G (.r .ent) it
  | .defer c => match c.callee with | .value f => (match opds G (f :: c.args.toList) with | some xs => some (.p .dfr, .t dfrT :: xs) | none => none) | _ => none
  | .mapUpdate t m k v | .insert t m k v =>
    match P.underlying t with
    | some (.map kt _) => match ckT P kt with | some ck => withs G (.w (.mset ck)) [m, k, v] | none => none
    | _ => none
  | .extract x i => with1 G (.p (.ext i)) x
  | .panic x => with1 G (.p .fail) x
  | .makeInterface _ x => with1 G (.p .fail) x
  | .call c => compileCall P G c
  | _ => none
/-- What the small machine has not is text that gives nothing. -/
def compileOp (o : Oper) : Option (AOpc × List AOpd) := some ((compileOp0 P G o).getD (.p .fail, []))
/-- What an operation waits for, edge by edge and through others. -/
def closeDeps (ops : Array Oper) (acc : List (List Nat)) (o : Oper) : List Nat :=
  let ds := (o.after.toList.filter (Region.binds .any)).map (·.on)
  (ds ++ ds.flatMap fun d => (acc[d]?).getD []).eraseDups
def allDeps (ops : Array Oper) : List (List Nat) := ops.toList.foldl (fun acc o => acc ++ [closeDeps ops acc o]) []
def compileGuard (ops : Array Oper) : Option (Nat × Bool) → Option (Option (Nat × Bool))
  | none => some none
  | some (j, b) => match ops[j]? with | some o => (match o.dst with | some t => if t < dfrT then some (some (t, b)) else none | none => none) | none => none
def dstOk (nt : Nat) : Option Nat → Bool
  | some d => decide (d < nt)
  | none => true
def isDfr : Op → Bool
  | .defer _ => true
  | _ => false
/-- A deferred call goes to the place where these are kept; it stands without a guard. -/
def compileOper (nt : Nat) (ops : Array Oper) (deps : List Nat) (o : Oper) : Option AOper :=
  match compileOp P G o, compileGuard ops o.guard with
  | some (opc, args), some g =>
    if dstOk nt o.dst = true then
      if isDfr o.op then (if o.dst.isNone && o.guard.isNone then some ⟨some dfrT, opc, args, g, deps⟩ else none) else some ⟨o.dst, opc, args, g, deps⟩
    else none
  | _, _ => none
def compileOps (nt : Nat) (ops : Array Oper) : Option (List AOper) :=
  mapO (fun (p : Oper × List Nat) => compileOper P G nt ops p.2 p.1) (ops.toList.zip (allDeps ops))
/-- The tmps that an operation names. -/
def AOper.looks (o : AOper) : List Nat := (o.args.filterMap fun | .t i => some i | _ => none) ++ (match o.guard with | some (t, _) => [t] | none => [])
def pairs (n : Nat) : List (Nat × Nat) := (List.range n).flatMap fun j => (List.range j).map fun i => (i, j)
/-- Readers that an edge sets neither before nor behind a writer. -/
def floatsOf (ops : List AOper) : List (Nat × Nat) :=
  (pairs ops.length).filterMap fun (i, j) =>
    match ops[i]?, ops[j]? with
    | some x, some y =>
      if y.deps.contains i then none
      else if x.opc.isR && y.opc.isW then some (i, j) else if x.opc.isW && y.opc.isR then some (j, i) else none
    | _, _ => none
/-- What is made: cells, or a map. -/
inductive Fl where
  | row (cs : List AV)
  | map
def AHeap.mk_ (H : AHeap) (fl : Fl) : AHeap :=
  { next := H.next + 1, blk := upd H.blk H.next (some (match fl with | .row cs => .row H.next cs | .map => .map true [] ([], 0))),
    fam := match fl with | .row _ => upd H.fam H.next (some (H.next, none)) | .map => H.fam,
    typ := H.typ }
/-- What a variable, a written slice, a made slice or a made map makes, and its value where it has a number. -/
def floRes (o : AOpc) (vs : List AV) : Option (Fl × (Nat → AV)) :=
  match o, vs with
  | .w .box, [v] => if v.cells.all AV.cell then some (.row v.cells, fun k => .ptr (some (k, 0))) else none
  | .w (.bsl sz len zero at_), vs => match fill zero at_ vs with
    | some cs => if cs.length = len * sz ∧ sz ≠ 0 then some (.row cs, fun k => .slc (some (k, 0)) sz len (some len)) else none
    | none => none
  | .w (.mks bytes zero), [.int _ l, .int _ c] =>
    if 0 ≤ l ∧ l ≤ c ∧ c * bytes ≤ 2 ^ 46 ∧ zero.length ≠ 0 ∧ zero.all AV.cell = true ∧ c ≤ 2 ^ 62 then
      some (.row (List.replicate c.toNat zero).flatten, fun k => .slc (some (k, 0)) zero.length l.toNat (some c.toNat))
    else none
  | .w .mkM, [] => some (.map, fun k => .map (some k))
  | _, _ => none
def AOper.flo (o : AOper) : Bool := o.guard.isNone && (match o.dst with | some d => decide (d < dfrT) | none => false) && (match o.opc with | .w .box => true | .w (.bsl ..) => true | .w (.mks ..) => true | .w .mkM => true | _ => false)
/-- A new row that may come ahead of writers that stand ahead of it: whatever waits for it waits for these, too. -/
def floOk (ops : List AOper) (j : Nat) : Bool :=
  match ops[j]? with
  | some y => y.flo && ((pairs ops.length).all fun (k, i) => !(k < j && j < i) ||
      (match ops[k]?, ops[i]? with | some b, some x => !b.opc.isW || !x.deps.contains j || x.deps.contains k | _, _ => true))
  | none => false
/-- In whatever order an operation may come, its operands are what they are in the text's order, and writers come in one order. -/
def pairOk (ops : List AOper) (p : Nat × Nat) : Bool :=
  match ops[p.1]?, ops[p.2]? with
  | some x, some y =>
    y.deps.contains p.1 ||
      ((match x.dst with | some d => !y.looks.contains d && y.dst != some d | none => true) &&
       (match y.dst with | some d => !x.looks.contains d | none => true) &&
       (!(x.opc.isW && y.opc.isW) || floOk ops p.2))
  | _, _ => false
def regOk (ops : List AOper) : Bool :=
  (pairs ops.length).all (pairOk ops) &&
  (ops.zipIdx.all fun (o, i) => o.deps.all fun d => d < i && (match ops[d]? with | some x => x.deps.all (o.deps.contains ·) | none => false))
/-- Each operation's own edges are among what it waits for; and it waits for these alone, and for what they wait for. -/
def edgesOk (ops : Array Oper) (l : List AOper) : Bool :=
  (List.range l.length).all fun i =>
    match ops[i]?, l[i]? with
    | some o, some a =>
      (o.after.toList.all fun e => !Region.binds .any e || a.deps.contains e.on) &&
      (a.deps.all fun d => o.after.toList.any fun e => Region.binds .any e && (e.on == d || (match l[e.on]? with | some b => b.deps.contains d | none => false)))
    | _, _ => false
/-- Without what it waits for. -/
def AOper.bare (o : AOper) : AOper := { o with deps := [] }
/-- Text that gives nothing. -/
def failC : ACode := .region [⟨none, .p .fail, [], none, []⟩] false []
/-- No deferred call, no range over a function. -/
def plainC : Code → Bool
  | .region _ ops _ => ops.toList.all fun o => !isDfr o.op
  | .seq a b => plainC a && plainC b
  | .cond _ a b => plainC a && plainC b
  | .block _ b => plainC b
  | .loop b => plainC b
  | .skip => true
  | .exit _ => true
  | .ret => true
  | _ => false
/-- An operation in another order of the text. -/
def permOper (π : List Nat) (o : Oper) : Oper := { o with after := o.after.map fun e => { e with on := π.idxOf e.on }, guard := o.guard.map fun g => (π.idxOf g.1, g.2) }
def permOps (π : List Nat) (ops : Array Oper) : Array Oper := (π.map fun i => permOper π (ops.getD i default)).toArray
def permOk (π : List Nat) (ops : Array Oper) : Bool :=
  π.length == ops.size &&
  ((List.range ops.size).all fun i => decide (π.getD i 0 < ops.size) && π.idxOf (π.getD i 0) == i) &&
  ((List.range ops.size).all fun k => decide (π.idxOf k < ops.size) && π.getD (π.idxOf k) 0 == k) &&
  (ops.toList.all fun o => (o.after.toList.all fun e => decide (e.on < ops.size)) && (match o.guard with | some (j, _) => decide (j < ops.size) | none => true))
/-- New rows as late as may be. -/
def lateOrder (l : List AOper) : List Nat :=
  let r := (List.range l.length).foldl (fun (acc : List Nat × List Nat) i =>
    match l[i]? with
    | some x => if x.flo then (acc.1, acc.2 ++ [i]) else (acc.1 ++ acc.2.filter (x.deps.contains ·) ++ [i], acc.2.filter fun j => !x.deps.contains j)
    | none => acc) ([], [])
  r.1 ++ r.2
def lateC (nt : Nat) (ops : Array Oper) (l : List AOper) : Option ACode :=
  if permOk (lateOrder l) ops then
    (match compileOps P G nt (permOps (lateOrder l) ops) with
    | some l' => if regOk l' && edgesOk (permOps (lateOrder l) ops) l' then some (.region (l'.map AOper.bare) true (floatsOf l')) else some failC
    | none => some failC)
  else some failC
def compileCode (nt : Nat) : Code → Option ACode
  | .skip => some .skip
  | .region _ ops draw =>
    match compileOps P G nt ops with
    | some l => if draw then (if regOk l && edgesOk ops l then some (.region (l.map AOper.bare) true (floatsOf l)) else lateC P G nt ops l) else some (.region (l.map AOper.bare) false [])
    | none => some failC
  | .seq a b => match compileCode nt a, compileCode nt b with | some a, some b => some (.seq a b) | _, _ => none
  | .cond c a b => match opd G c, compileCode nt a, compileCode nt b with | some c, some a, some b => some (.cond c a b) | _, _, _ => none
  | .block id b => match compileCode nt b with | some b => some (.block id b) | none => none
  | .loop b => match compileCode nt b with | some b => some (.loop b) | none => none
  | .exit id => some (.exit id)
  | .ret => some .ret
  | .rangeFunc g ps asg body =>
    match opd G g, compileCode nt asg, compileCode nt body with
    | some g, some a, some b => if (plainC asg && plainC body && ps.toList.all fun p => decide (p < nt)) = true then some (.rngf g ps.toList a b) else some failC
    | _, _, _ => none
  | _ => some failC
def compileRes : ResultVar → Option ARes
  | .tmp t => if t < dfrT then some (.tmp t) else none
  | .cell a t => match sizeT P t, aggT P t with | some n, some g => if (g ∨ n = 1) ∧ a < dfrT then some (.cell a n g) else none | _, _ => none
def compileFn (fn : Func) : Option AFunc :=
  match fn.body with
  | some c => match compileCode P G fn.ntmps c, mapO (compileRes P) fn.results.toList with | some b, some r => if fn.name = "runtime.NumGoroutine" ∨ dfrT < fn.ntmps then none else some ⟨b, r⟩ | _, _ => none
  | none => none
end
end Go.Am
