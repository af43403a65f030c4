/- What the small machine's operations that do not look at the heap give, the model's operations give too. -/
import Derived.Test.YtdgkaachkodimaaDoorAmMem
import Derived.Test.YtdgkaachkodimaaDoorAmComp
import Derived.Laws.StructEq
import Derived.Laws.Cover3
import Derived.Laws.Pointers
import Derived.Laws.Small
import Derived.DeepKeys
import Derived.LaidEql
import Derived.Laws.BytesArg
import Derived.Lib.ConvBytes
import Derived.MapKept
import Derived.Lib.Builder
import Derived.Lib.UnsafeStr
import Derived.Laws.LoneSync
set_option linter.unusedVariables false
set_option linter.unusedSimpArgs false
namespace Go.Am
open Go.RowKit
variable {G : Nat → Nat} {P : Program}
/-! ### Strings -/
theorem toList_loop (bs : ByteArray) (n : Nat) : ∀ (i : Nat) (acc : List UInt8), bs.size - i = n → ByteArray.toList.loop bs i acc = acc.reverse ++ bs.data.toList.drop i := by
  induction n with
  | zero =>
    intro i acc h
    unfold ByteArray.toList.loop
    rw [if_neg (by omega), List.drop_eq_nil_of_le (by rw [Array.length_toList]; have : bs.data.size = bs.size := rfl; omega), List.append_nil]
  | succ n ih =>
    intro i acc h
    unfold ByteArray.toList.loop
    have hi : i < bs.size := by omega
    rw [if_pos hi, ih _ _ (by omega)]
    have hd : i < bs.data.toList.length := by rw [Array.length_toList]; exact hi
    rw [List.drop_eq_getElem_cons hd, List.reverse_cons, List.append_assoc, List.singleton_append]
    congr 2
    have : bs.get! i = bs.data[i]! := rfl
    rw [this, getElem!_pos bs.data i (by exact hi), Array.getElem_toList]
theorem toList_eq (bs : ByteArray) : bs.toList = bs.data.toList := by
  unfold ByteArray.toList
  rw [toList_loop bs _ 0 [] rfl]; simp
def bs (l : List UInt8) : ByteArray := ⟨⟨l⟩⟩
theorem bs_toList (l : List UInt8) : (⟨⟨l⟩⟩ : ByteArray).toList = l := by rw [toList_eq]
theorem bs_size (l : List UInt8) : (⟨⟨l⟩⟩ : ByteArray).size = l.length := rfl
theorem bs_append (a b : List UInt8) : (⟨⟨a⟩⟩ : ByteArray) ++ ⟨⟨b⟩⟩ = ⟨⟨a ++ b⟩⟩ := by
  apply ByteArray.ext
  rw [ByteArray.data_append]
  apply Array.ext'
  simp
theorem bs_extract (a : List UInt8) (l h : Nat) : (⟨⟨a⟩⟩ : ByteArray).extract l h = ⟨⟨(a.take h).drop l⟩⟩ := by
  apply ByteArray.ext
  rw [ByteArray.data_extract]
  apply Array.ext'
  simp [List.drop_take]
theorem bs_data (s : ByteArray) : (⟨⟨s.data.toList⟩⟩ : ByteArray) = s := by cases s; rfl
theorem bs_get (l : List UInt8) (i : Nat) : (⟨⟨l⟩⟩ : ByteArray)[i]? = l[i]? := by
  by_cases h : i < l.length
  · rw [getElem?_pos (⟨⟨l⟩⟩ : ByteArray) i h, List.getElem?_eq_getElem h]; rfl
  · rw [getElem?_neg (⟨⟨l⟩⟩ : ByteArray) i h, List.getElem?_eq_none (by omega)]
/-! ### Constants -/
section
variable {n : Nat} {E : Nat → Ent}
theorem ofFlat_VR {v : Value} {a : AV} (h : ofFlat v = some a) : VR G n E a v := by
  cases v with
  | bool b => simp [ofFlat] at h; subst h; rfl
  | int k i => simp [ofFlat] at h; subst h; rfl
  | string s => simp [ofFlat] at h; subst h; show _ = _; rw [bs_data]
  | pointer p => cases p <;> simp [ofFlat] at h; subst h; rfl
  | slice p l c => cases p <;> cases l <;> cases c <;> simp [ofFlat] at h; subst h; exact ⟨rfl, rfl⟩
  | map m => cases m <;> simp [ofFlat] at h; subst h; rfl
  | nilFunc => simp [ofFlat] at h; subst h; rfl
  | nilIface => simp [ofFlat] at h; subst h; rfl
  | _ => simp [ofFlat] at h
theorem mapO_VRs : ∀ {vs : List Value} {as : List AV}, mapO ofFlat vs = some as → VRs G n E as vs
  | [], as, h => by simp [mapO] at h; subst h; rfl
  | v :: vs, as, h => by
    unfold mapO at h
    cases h1 : ofFlat v with
    | none => simp [h1] at h
    | some a =>
      cases h2 : mapO ofFlat vs with
      | none => simp [h1, h2] at h
      | some l => simp [h1, h2] at h; subst h; exact ⟨v, vs, rfl, ofFlat_VR h1, mapO_VRs h2⟩
theorem ofValue_VR {v : Value} {a : AV} (h : ofValue v = some a) : VR G n E a v := by
  cases v with
  | agg cs =>
    simp only [ofValue] at h
    cases h2 : mapO ofFlat cs.toList with
    | none => simp [h2] at h
    | some l => simp [h2] at h; subst h; exact ⟨cs, rfl, mapO_VRs h2⟩
  | _ => exact ofFlat_VR h
end
/-- What an environment says of the temporaries. -/
def EnvR (G : Nat → Nat) (n : Nat) (E : Nat → Ent) (e : Env) (a : Act) : Prop := ∀ i, i ≠ dfrT → VR G n E (e i) (a.tmps.getD i Go.undef)
theorem opd_VR {n : Nat} {E : Nat → Ent} {e : Env} {a : Act} (he : EnvR G n E e a) {x : Operand} {y : AOpd} (h : opd G x = some y) : VR G n E (e.ev y) (a.eval x) := by
  cases x with
  | tmp t =>
    simp only [opd] at h
    split at h
    · rename_i ht
      simp at h; subst h; exact he t (Nat.ne_of_lt ht)
    · cases h
  | const v =>
    simp only [opd] at h
    cases h1 : ofValue v with
    | none => simp [h1] at h
    | some w => simp [h1] at h; subst h; exact ofValue_VR h1
  | global g => simp [opd] at h
  | func f => simp [opd] at h; subst h; exact ⟨f, #[], #[], rfl, rfl, rfl, rfl⟩
theorem opds_VRs {n : Nat} {E : Nat → Ent} {e : Env} {a : Act} (he : EnvR G n E e a) : ∀ {xs : List Operand} {ys : List AOpd}, opds G xs = some ys → VRs G n E (ys.map e.ev) (xs.map a.eval)
  | [], ys, h => by simp [opds, mapO] at h; subst h; rfl
  | x :: xs, ys, h => by
    unfold opds mapO at h
    cases h1 : opd G x with
    | none => simp [h1] at h
    | some y =>
      cases h2 : mapO (opd G) xs with
      | none => simp [h1, h2] at h
      | some l => simp [h1, h2] at h; subst h; exact ⟨_, _, rfl, opd_VR he h1, opds_VRs he h2⟩
/-! ### Two operands -/
section
variable {n : Nat} {E : Nat → Ent}
theorem guard_int (w : World) (op : BinOp) (t : TypeId) (x y : Operand) (k l : IntKind) (a b : Int) : (eqGuard op t x y (.int k a) (.int l b)).run P w = .ok () w := by
  cases op <;> simp [eqGuard]
theorem guard_str (w : World) (op : BinOp) (t : TypeId) (x y : Operand) (a b : ByteArray) : (eqGuard op t x y (.string a) (.string b)).run P w = .ok () w := by
  cases op <;> simp [eqGuard]
theorem guard_bool (w : World) (op : BinOp) (t : TypeId) (x y : Operand) (a b : Bool) : (eqGuard op t x y (.bool a) (.bool b)).run P w = .ok () w := by
  cases op <;> simp [eqGuard]
theorem run_binOp {w : World} {op : BinOp} {t : TypeId} {x y : Operand} {a b v : AV} {u1 u2 : Value} (h : Am.binOp op a b = some v) (ha : VR G n E a u1) (hb : VR G n E b u2) :
    ∃ u, ((do eqGuard op t x y u1 u2; Go.binOp op t u1 u2 : Sem Value)).run P w = .ok u w ∧ VR G n E v u := by
  cases a <;> cases b <;> simp only [Am.binOp] at h <;> try (cases h; done)
  · rename_i k i l j
    rw [show u1 = _ from ha, show u2 = _ from hb]
    rw [Sem.run_bind, guard_int, Result.andThen_ok]
    by_cases hk : k = l
    · subst hk
      cases op <;> simp only [Am.intOp, Am.shiftOp, if_true, Option.some.injEq, reduceCtorEq] at h <;> simp only [Go.binOp, ne_eq, not_true_eq_false, if_false]
      case add => subst h; exact ⟨_, rfl, rfl⟩
      case sub => subst h; exact ⟨_, rfl, rfl⟩
      case mul => subst h; exact ⟨_, rfl, rfl⟩
      case and => subst h; exact ⟨_, rfl, rfl⟩
      case or => subst h; exact ⟨_, rfl, rfl⟩
      case xor => subst h; exact ⟨_, rfl, rfl⟩
      case andNot => subst h; exact ⟨_, rfl, rfl⟩
      case eql => subst h; exact ⟨_, rfl, rfl⟩
      case neq => subst h; exact ⟨_, rfl, rfl⟩
      case lss => subst h; exact ⟨_, rfl, rfl⟩
      case leq => subst h; exact ⟨_, rfl, rfl⟩
      case gtr => subst h; exact ⟨_, rfl, rfl⟩
      case geq => subst h; exact ⟨_, rfl, rfl⟩
      all_goals
        split at h
        · cases h
        · rename_i h1
          simp only [Option.some.injEq] at h
          subst h
          refine ⟨_, ?_, rfl⟩
          simp [Op.intDiv, Op.shift, h1]
          try rfl
    · cases op <;> simp only [hk, Am.shiftOp, if_false, reduceCtorEq] at h <;> simp only [Go.binOp]
      all_goals
        split at h
        · cases h
        · rename_i h1
          simp only [Option.some.injEq] at h
          subst h
          refine ⟨_, ?_, rfl⟩
          simp [Op.shift, h1]
          try rfl
  · rename_i s r
    rw [show u1 = _ from ha, show u2 = _ from hb]
    rw [Sem.run_bind, guard_str, Result.andThen_ok]
    cases op <;> simp only [Am.strOp, Option.some.injEq, reduceCtorEq] at h <;> simp only [Go.binOp]
    case add =>
      split at h
      · cases h
      · rename_i h1
        simp only [Option.some.injEq] at h
        subst h
        refine ⟨_, ?_, rfl⟩
        have h2 : ¬ (((s.length + r.length : Nat) : Int) > IntKind.i64.max) := by
          have : IntKind.i64.max = 9223372036854775807 := by decide
          omega
        unfold Op.stringOp
        simp only [bs_size, if_neg h2, bs_append]
        rfl
    all_goals
      subst h
      refine ⟨_, ?_, rfl⟩
      simp [Op.stringOp, bs_toList]
theorem run_eqB {w : World} {op : BinOp} {t : TypeId} {x y : Operand} {a b : Bool} (ht : P.underlying t = some .bool) (ho : op = .eql ∨ op = .neq) :
    ((do eqGuard op t x y (.bool a) (.bool b); Go.binOp op t (.bool a) (.bool b) : Sem Value)).run P w = .ok (.bool ((a == b) != (op == .neq))) w := by
  rw [Sem.run_bind, guard_bool, Result.andThen_ok]
  have h1 : (Op.equal t (.bool a) (.bool b)).run P w = .ok (a == b) w := by
    unfold Op.equal; rw [show Op.maxDepth = 9999 + 1 from rfl]; exact run_equalIn_bool' w 9999 t a b ht
  rcases ho with rfl | rfl
  · simp [Go.binOp, h1]; cases a <;> cases b <;> rfl
  · simp [Go.binOp, h1]
end
end Go.Am

/- What the small machine's operations that do not look at the heap give, the model's operations give too: the others. -/
set_option linter.unusedVariables false
set_option linter.unusedSimpArgs false
namespace Go.Am
open Go.RowKit
variable {G : Nat → Nat} {P : Program} {n : Nat} {E : Nat → Ent} {w : World}
/-! ### nil -/
theorem guard_nil {op : BinOp} {t : TypeId} {x y : Operand} {u v : Value} (h : ∀ cs, u ≠ .agg cs) (h' : u ≠ .nilIface) : (eqGuard op t x y u v).run P w = .ok () w := by
  cases op <;> simp only [eqGuard] <;> cases u <;> cases v <;> first | rfl | exact absurd rfl h' | exact absurd rfl (h _)
def nilOf : NK → Value
  | .ptr => .pointer none
  | .slc => .slice none 0 0
  | .map => .map none
  | .fn => .nilFunc
theorem nil_val {k : NK} {y : Operand} {a : Act} (h : isNilC k y = true) :
    a.eval y = nilOf k := by
  unfold isNilC at h
  split at h <;> first | (simp at h; subst h; rfl) | cases h
/-- What holding a value against nil gives. -/
theorem equalIn_nil (d : Nat) {k : NK} {t : TypeId} (ht : nilKind P t = some k) {a : AV} {b : Bool} (h : isNil k a = some b) {u : Value} (hu : VR G n E a u) :
    (Op.equalIn (d + 1) t u (nilOf k)).run P w = .ok b w ∧ (Op.equalIn (d + 1) t (nilOf k) u).run P w = .ok b w := by
  unfold nilKind at ht
  cases hd : P.underlying t with
  | none => simp [hd] at ht
  | some ds =>
    cases ds <;> simp [hd] at ht <;> subst ht
    · cases a <;> simp [isNil] at h
      subst h
      rename_i p
      cases p with
      | none => rw [show u = _ from hu]; simp [nilOf, Op.equalIn, run_underlying hd]
      | some p => rw [hu.2]; simp [nilOf, Op.equalIn, run_underlying hd]
    · cases a <;> simp [isNil] at h
      subst h
      rename_i p _ _ _
      cases p with
      | none => rw [hu.2]; simp [nilOf, Op.equalIn, run_underlying hd]
      | some p => obtain ⟨_, a, c, e, _⟩ := hu; rw [e]; simp [nilOf, Op.equalIn, run_underlying hd]
    · cases a <;> simp [isNil] at h
      subst h
      rename_i p
      cases p with
      | none => rw [show u = _ from hu]; simp [nilOf, Op.equalIn, run_underlying hd]
      | some p => rw [hu.2]; simp [nilOf, Op.equalIn, run_underlying hd]
    · cases a <;> simp [isNil] at h <;> subst h
      · obtain ⟨_, _, _, _, e, _⟩ := hu; rw [e]; simp [nilOf, Op.equalIn, run_underlying hd]
      · rw [show u = _ from hu]; simp [nilOf, Op.equalIn, run_underlying hd]
theorem nil_shape {k : NK} {a : AV} {b : Bool} (h : isNil k a = some b) {u : Value} (hu : VR G n E a u) :
    (∀ cs, u ≠ .agg cs) ∧ u ≠ .nilIface ∧ (∀ kk i, u ≠ .int kk i) ∧ (∀ s, u ≠ .string s) ∧ (∀ f x, u ≠ .float f x) ∧ (∀ f x y, u ≠ .complex f x y) := by
  cases k <;> cases a <;> simp [isNil] at h
  · rename_i p
    cases p with
    | none => rw [show u = _ from hu]; simp
    | some p => rw [hu.2]; simp
  · rename_i p _ _ _
    cases p with
    | none => rw [hu.2]; simp
    | some p => obtain ⟨_, a, c, e, _⟩ := hu; rw [e]; simp
  · rename_i p
    cases p with
    | none => rw [show u = _ from hu]; simp
    | some p => rw [hu.2]; simp
  · obtain ⟨_, _, _, _, e, _⟩ := hu; rw [e]; simp
  · rw [show u = _ from hu]; simp
theorem nilOf_shape (k : NK) : (∀ cs, nilOf k ≠ .agg cs) ∧ nilOf k ≠ .nilIface ∧ (∀ kk i, nilOf k ≠ .int kk i) ∧ (∀ s, nilOf k ≠ .string s) ∧ (∀ f x, nilOf k ≠ .float f x) ∧ (∀ f x y, nilOf k ≠ .complex f x y) := by
  cases k <;> simp [nilOf]
theorem binOp_eq {op : BinOp} (ho : op = .eql ∨ op = .neq) {t : TypeId} {b : Bool} {z1 z2 : Value} (q1 : ∀ kk i, z1 ≠ .int kk i) (q2 : ∀ s, z1 ≠ .string s) (q3 : ∀ f x, z1 ≠ .float f x) (q4 : ∀ f x y, z1 ≠ .complex f x y)
    (q : (Op.equal t z1 z2).run P w = .ok b w) : (Go.binOp op t z1 z2).run P w = .ok (.bool (b != (op == .neq))) w := by
  have e1 : Go.binOp .eql t z1 z2 = (do pure (.bool (← Op.equal t z1 z2)) : Sem Value) := by
    cases z1 <;> first | rfl | exact absurd rfl (q1 _ _) | exact absurd rfl (q2 _) | exact absurd rfl (q3 _ _) | exact absurd rfl (q4 _ _ _)
  have e2 : Go.binOp .neq t z1 z2 = (do pure (.bool (!(← Op.equal t z1 z2))) : Sem Value) := by
    cases z1 <;> first | rfl | exact absurd rfl (q1 _ _) | exact absurd rfl (q2 _) | exact absurd rfl (q3 _ _) | exact absurd rfl (q4 _ _ _)
  rcases ho with rfl | rfl
  · rw [e1, Sem.run_bind, q]; cases b <;> rfl
  · rw [e2, Sem.run_bind, q]; cases b <;> rfl
theorem run_isNil {op : BinOp} (ho : op = .eql ∨ op = .neq) {k : NK} {t : TypeId} (ht : nilKind P t = some k) {a : AV} {b : Bool} (h : isNil k a = some b) {u : Value} (hu : VR G n E a u) (x y : Operand) :
    ((do eqGuard op t x y u (nilOf k); Go.binOp op t u (nilOf k) : Sem Value)).run P w = .ok (.bool (b != (op == .neq))) w ∧
    ((do eqGuard op t x y (nilOf k) u; Go.binOp op t (nilOf k) u : Sem Value)).run P w = .ok (.bool (b != (op == .neq))) w := by
  obtain ⟨h1, h2⟩ := equalIn_nil (w := w) 9999 ht h hu
  obtain ⟨h3, h4, h5, h6, h7, h8⟩ := nil_shape h hu
  obtain ⟨k3, k4, k5, k6, k7, k8⟩ := nilOf_shape k
  refine ⟨?_, ?_⟩
  · rw [Sem.run_bind, guard_nil h3 h4, Result.andThen_ok]; exact binOp_eq ho h5 h6 h7 h8 h1
  · rw [Sem.run_bind, guard_nil k3 k4, Result.andThen_ok]; exact binOp_eq ho k5 k6 k7 k8 h2
/-! ### Parts of a value -/
theorem info_size {t : TypeId} {m : Nat} (h : sizeT P t = some m) : ∃ i, P.info? t = some i ∧ i.size = m := by
  unfold sizeT at h
  cases hi : P.info? t with
  | none => simp [hi] at h
  | some i => simp [hi] at h; exact ⟨i, rfl, h⟩
theorem run_sizeOf {t : TypeId} {m : Nat} (h : sizeT P t = some m) : (sizeOf t).run P w = .ok m w := by
  obtain ⟨i, h1, h2⟩ := info_size h
  simp [sizeOf, typeInfo, h1, h2]
theorem run_isAgg {t : TypeId} {g : Bool} (h : aggT P t = some g) : (isAgg t).run P w = .ok g w := by
  unfold aggT at h
  cases hd : P.underlying t with
  | none => simp [hd] at h
  | some d => cases d <;> simp [hd] at h <;> subst h <;> simp [isAgg, run_underlying hd]
theorem bytes_info {t : TypeId} {m : Nat} (h : bytesT P t = some m) : ∃ i, P.info? t = some i ∧ i.bytes = m := by
  unfold bytesT at h
  cases hi : P.info? t with
  | none => simp [hi] at h
  | some i => simp [hi] at h; exact ⟨i, rfl, h⟩
theorem zero_info {t : TypeId} {a : AV} (h : zeroOf P t = some a) : ∃ i z, P.info? t = some i ∧ i.zero = some z ∧ ofValue z = some a := by
  unfold zeroOf at h
  cases hi : P.info? t with
  | none => simp [hi] at h
  | some i =>
    cases hz : i.zero with
    | none => simp [hi, hz] at h
    | some z => simp [hi, hz] at h; exact ⟨i, z, rfl, hz, h⟩
theorem run_part {t : TypeId} {off m : Nat} {g : Bool} (h1 : sizeT P t = some m) (h2 : aggT P t = some g) {cs : List AV} {us : Array Value} (hv : VRs G n E cs us.toList) {v : AV} (h : Am.part cs off m g = some v) :
    ∃ u, (Go.part t us off).run P w = .ok u w ∧ VR G n E v u := by
  unfold Am.part at h
  cases g with
  | true =>
    simp only [if_true] at h
    split at h
    · simp at h
      subst h
      refine ⟨.agg (us.extract off (off + m)), by simp [Go.part, run_isAgg h2, run_sizeOf h1], ⟨_, rfl, ?_⟩⟩
      have : (us.extract off (off + m)).toList = (us.toList.drop off).take m := by
        simp
      rw [this]
      exact (hv.drop off).take m
    · cases h
  | false =>
    simp only [Bool.false_eq_true, if_false] at h
    obtain ⟨u, e, hu⟩ := hv.get _ _ h
    refine ⟨u, ?_, hu⟩
    have : us[off]? = some u := by rw [← Array.getElem?_toList]; exact e
    simp [Go.part, run_isAgg h2, this]
/-! ### Structs and arrays that are equal -/
theorem run_eqField {k : CK} {t : TypeId} (ht : ckT P t = some k) {a b : AV} {r : Bool} {d : Nat} (h : eqCells [k] [a] [b] = some r) {u v : Value} (hu : VR G n E a u) (hv : VR G n E b v) :
    (Op.equalIn (d + 1) t u v).run P w = .ok r w := by
  unfold ckT at ht
  cases hd : P.underlying t with
  | none => simp [hd] at ht
  | some ds =>
    cases ds <;> simp [hd] at ht <;> subst ht
    · cases a <;> cases b <;> simp [eqCells] at h
      rename_i x y
      rw [show u = _ from hu, show v = _ from hv, run_equalIn_bool' w d t x y hd]
      congr 1
      by_cases e : x = y
      · subst e; simp at h; rw [h]; simp
      · simp [e] at h; rw [h]; simp [e]
    · cases a <;> cases b <;> simp [eqCells] at h
      rename_i k x l y
      by_cases hk : k = l
      · subst hk
        rw [show u = _ from hu, show v = _ from hv, run_equalIn_int w d t k _ x y hd]
        congr 1
        by_cases e : x = y
        · subst e; simp at h; rw [h]; simp
        · simp [e] at h; rw [h]; simp [e]
      · simp [hk] at h
    · cases a <;> cases b <;> simp [eqCells] at h
      rename_i x y
      rw [show u = _ from hu, show v = _ from hv, run_equalIn_string w d t _ _ hd, bs_toList, bs_toList]
      congr 1
      by_cases e : x = y
      · subst e; simp at h; rw [h]; simp
      · simp [e] at h; rw [h]; simp [e]
theorem eqCells_cons {k : CK} {ks : List CK} {as bs : List AV} {r : Bool} (h : eqCells (k :: ks) as bs = some r) :
    ∃ a as' b bs', as = a :: as' ∧ bs = b :: bs' ∧ ((eqCells [k] [a] [b] = some false ∧ r = false) ∨ (eqCells [k] [a] [b] = some true ∧ eqCells ks as' bs' = some r)) := by
  unfold eqCells at h
  split at h
  · cases ‹k :: ks = []›
  · rename_i e
    simp at e
    obtain ⟨rfl, rfl⟩ := e
    split at h
    · rename_i hk; subst hk
      split at h
      · rename_i e; exact ⟨_, _, _, _, rfl, rfl, .inr ⟨by simp [eqCells, e], h⟩⟩
      · rename_i e; simp at h; exact ⟨_, _, _, _, rfl, rfl, .inl ⟨by simp [eqCells, e], h⟩⟩
    · cases h
  · rename_i e
    simp at e
    obtain ⟨rfl, rfl⟩ := e
    split at h
    · rename_i e; exact ⟨_, _, _, _, rfl, rfl, .inr ⟨by simp [eqCells, e], h⟩⟩
    · rename_i e; simp at h; exact ⟨_, _, _, _, rfl, rfl, .inl ⟨by simp [eqCells, e], h⟩⟩
  · rename_i e
    simp at e
    obtain ⟨rfl, rfl⟩ := e
    split at h
    · rename_i e; exact ⟨_, _, _, _, rfl, rfl, .inr ⟨by simp [eqCells, e], h⟩⟩
    · rename_i e; simp at h; exact ⟨_, _, _, _, rfl, rfl, .inl ⟨by simp [eqCells, e], h⟩⟩
  · cases h
theorem ckT_agg {t : TypeId} {k : CK} (h : ckT P t = some k) : aggT P t = some false := by
  unfold ckT at h
  unfold aggT
  cases hd : P.underlying t with
  | none => simp [hd] at h
  | some d => cases d <;> simp [hd] at h <;> rfl
theorem run_part1 {t : TypeId} {k : CK} (h2 : ckT P t = some k) {off : Nat} {us : Array Value} {u : Value} (hu : us.toList[off]? = some u) : (Go.part t us off).run P w = .ok u w := by
  have : us[off]? = some u := by rw [← Array.getElem?_toList]; exact hu
  simp [Go.part, run_isAgg (ckT_agg h2), this]
theorem run_eqFields {d : Nat} {xs ys : Array Value} : ∀ (fs : List Field) (m : Nat) (ks : List CK) (as bs : List AV) (r : Bool), flatFields P m fs = some ks → eqCells ks as bs = some r →
    VRs G n E as (xs.toList.drop m) → VRs G n E bs (ys.toList.drop m) → (Op.eqFields (d + 1) xs ys fs).run P w = .ok r w
  | [], m, ks, as, bs, r, hf, he, _, _ => by
    simp [flatFields] at hf; subst hf
    unfold eqCells at he
    split at he <;> simp_all [Op.eqFields]
  | f :: fs, m, ks, as, bs, r, hf, he, hx, hy => by
    unfold flatFields at hf
    split at hf
    · rename_i hc
      cases h1 : ckT P f.type with
      | none => simp [h1] at hf
      | some k =>
        cases h2 : flatFields P (m + 1) fs with
        | none => simp [h1, h2] at hf
        | some ks' =>
          simp [h1, h2] at hf
          subst hf
          obtain ⟨a, as', b, bs', rfl, rfl, hor⟩ := eqCells_cons he
          obtain ⟨u, us', e1, v1, v2⟩ := hx
          obtain ⟨v, vs', e2, v3, v4⟩ := hy
          have g1 : xs.toList[m]? = some u := by rw [← List.head?_drop, e1]; rfl
          have g2 : ys.toList[m]? = some v := by rw [← List.head?_drop, e2]; rfl
          have t1 : xs.toList.drop (m + 1) = us' := by rw [← List.tail_drop, e1]; rfl
          have t2 : ys.toList.drop (m + 1) = vs' := by rw [← List.tail_drop, e2]; rfl
          have p1 := run_part1 (w := w) h1 g1
          have p2 := run_part1 (w := w) h1 g2
          simp only [Op.eqFields, hc.1, ne_eq, not_false_eq_true, if_true, Sem.run_bind, hc.2, p1, p2, Result.andThen_ok]
          rcases hor with ⟨q, rfl⟩ | ⟨q, q'⟩
          · rw [run_eqField h1 q v1 v3]; simp
          · rw [run_eqField h1 q v1 v3]
            simp only [Result.andThen_ok, Bool.not_true, Bool.false_eq_true, if_false]
            exact run_eqFields fs (m + 1) ks' as' bs' r h2 q' (by rw [t1]; exact v2) (by rw [t2]; exact v4)
    · cases hf
theorem run_eqItems {d : Nat} {xs ys : Array Value} {e : TypeId} {k : CK} (hk : ckT P e = some k) : ∀ (len m : Nat) (as bs : List AV) (r : Bool), eqCells (List.replicate len k) as bs = some r →
    VRs G n E as (xs.toList.drop m) → VRs G n E bs (ys.toList.drop m) → (Op.eqItems (d + 1) e 1 xs ys (List.range' m len)).run P w = .ok r w
  | 0, m, as, bs, r, he, _, _ => by
    unfold eqCells at he
    simp only [List.replicate_zero] at he
    split at he <;> simp_all [Op.eqItems]
  | len + 1, m, as, bs, r, he, hx, hy => by
    rw [List.replicate_succ] at he
    obtain ⟨a, as', b, bs', rfl, rfl, hor⟩ := eqCells_cons he
    obtain ⟨u, us', e1, v1, v2⟩ := hx
    obtain ⟨v, vs', e2, v3, v4⟩ := hy
    have g1 : xs.toList[m]? = some u := by rw [← List.head?_drop, e1]; rfl
    have g2 : ys.toList[m]? = some v := by rw [← List.head?_drop, e2]; rfl
    have t1 : xs.toList.drop (m + 1) = us' := by rw [← List.tail_drop, e1]; rfl
    have t2 : ys.toList.drop (m + 1) = vs' := by rw [← List.tail_drop, e2]; rfl
    have p1 := run_part1 (w := w) hk g1
    have p2 := run_part1 (w := w) hk g2
    simp only [List.range'_succ, Op.eqItems, Nat.mul_one, Sem.run_bind, p1, p2, Result.andThen_ok]
    rcases hor with ⟨q, rfl⟩ | ⟨q, q'⟩
    · rw [run_eqField hk q v1 v3]; simp
    · rw [run_eqField hk q v1 v3]
      simp only [Result.andThen_ok, Bool.not_true, Bool.false_eq_true, if_false]
      exact run_eqItems hk len (m + 1) as' bs' r q' (by rw [t1]; exact v2) (by rw [t2]; exact v4)
theorem run_eqCells {op : BinOp} (ho : op = .eql ∨ op = .neq) {t : TypeId} {ks : List CK} (hf : structFlat P t = some ks) {as bs : List AV} {r : Bool} (h : eqCells ks as bs = some r) {xs ys : Array Value}
    (hx : VRs G n E as xs.toList) (hy : VRs G n E bs ys.toList) (x y : Operand) :
    ((do eqGuard op t x y (.agg xs) (.agg ys); Go.binOp op t (.agg xs) (.agg ys) : Sem Value)).run P w = .ok (.bool (r != (op == .neq))) w := by
  have main : P.eqGuardType P.depth t = false ∧ (Op.equalIn 10000 t (.agg xs) (.agg ys)).run P w = .ok r w := by
    unfold structFlat at hf
    cases hd : P.underlying t with
    | none => simp [hd] at hf
    | some d =>
      cases d <;> simp only [hd, reduceCtorEq] at hf
      · rename_i len e
        split at hf
        · rename_i hc
          refine ⟨hc.1, ?_⟩
          cases hk : ckT P e with
          | none => simp [hk] at hf
          | some k =>
            simp [hk] at hf
            subst hf
            obtain ⟨i, hi, hs⟩ := info_size hc.2
            have hce : P.cellsOf e = 1 := by simp [Program.cellsOf, hi, hs]
            rw [show (10000 : Nat) = 9999 + 1 from rfl, run_equalIn_array w 9999 xs ys hd hi, hce, show (9999 : Nat) = 9998 + 1 from rfl, List.range_eq_range']
            exact run_eqItems hk len 0 as bs r h (by simpa using hx) (by simpa using hy)
        · cases hf
      · rename_i fs
        split at hf
        · rename_i hc
          refine ⟨hc.2, ?_⟩
          have hfs : P.fieldsOf t = fs := by simp [Program.fieldsOf, hd]
          rw [show (10000 : Nat) = 9999 + 1 from rfl, run_equalIn_struct w 9999 t xs ys (by rw [hfs]; exact hd) hc.1, hfs, show (9999 : Nat) = 9998 + 1 from rfl]
          exact run_eqFields fs.toList 0 ks as bs r hf h (by simpa using hx) (by simpa using hy)
        · cases hf
  rw [Sem.run_bind, run_eqGuard_agg w op t x y xs ys main.1, Result.andThen_ok]
  rcases ho with rfl | rfl
  · rw [run_eql_struct, main.2]; simp; cases r <;> rfl
  · rw [run_neq_struct, main.2]; simp
end Go.Am

/- What the small machine's operations that do not look at the heap give, the model's operations give too: slices, texts, structs. -/
set_option linter.unusedVariables false
set_option linter.unusedSimpArgs false
namespace Go.Am
open Go.RowKit
variable {G : Nat → Nat} {P : Program} {n : Nat} {E : Nat → Ent} {w : World}
/-! ### Bounds -/
theorem natOf_VR {v : AV} {m : Nat} (h : natOf v = some m) {u : Value} (hu : VR G n E v u) : ∃ k i, u = .int k i ∧ 0 ≤ i ∧ i.toNat = m := by
  cases v <;> simp [natOf] at h
  exact ⟨_, _, hu, h.1, h.2⟩
/-- A bound in the model beside a bound of the small machine. -/
def BdR : Option Value → Option Nat → Prop
  | none, none => True
  | some u, some m => ∃ k i, u = .int k i ∧ 0 ≤ i ∧ i.toNat = m
  | _, _ => False
theorem run_sliceBound {k : IntKind} {i : Int} {y : Nat} {code : BoundsCode} (h0 : 0 ≤ i) (h : i.toNat ≤ y) : (Instr.sliceBound (.int k i) y code).run P w = .ok i.toNat w := by
  have : i ≤ (y : Int) := by omega
  simp [Instr.sliceBound, asIntOf, h0, this]
theorem run_bounds {isS : Bool} {len cap : Nat} {lo hi mx : Option Value} {l h m : Option Nat} (h1 : BdR lo l) (h2 : BdR hi h) (h3 : BdR mx m) (hm : ∀ q, m = some q → q ≤ cap) (hh : h.getD len ≤ m.getD cap) (hl : l.getD 0 ≤ h.getD len)
    (hx : mx.isSome = true → hi.isSome = true) : (Instr.sliceBounds isS len cap lo hi mx).run P w = .ok (l.getD 0, h.getD len, m.getD cap) w := by
  have key : ∀ (o : Option Value) (r : Option Nat), BdR o r → (o = none ∧ r = none) ∨ ∃ k i, o = some (.int k i) ∧ 0 ≤ i ∧ r = some i.toNat := by
    intro o r hor
    cases o <;> cases r
    · exact .inl ⟨rfl, rfl⟩
    · exact hor.elim
    · exact hor.elim
    · obtain ⟨k, i, rfl, h0, rfl⟩ := hor; exact .inr ⟨k, i, rfl, h0, rfl⟩
  rcases key _ _ h1 with ⟨rfl, rfl⟩ | ⟨k1, i1, rfl, q1, rfl⟩ <;> rcases key _ _ h2 with ⟨rfl, rfl⟩ | ⟨k2, i2, rfl, q2, rfl⟩ <;> rcases key _ _ h3 with ⟨rfl, rfl⟩ | ⟨k3, i3, rfl, q3, rfl⟩ <;>
    simp only [Option.getD_none, Option.getD_some] at hh hl hm ⊢
  · simp [Instr.sliceBounds]
  · simp at hx
  · simp [Instr.sliceBounds, run_sliceBound q2 hh]
  · have := hm _ rfl
    simp [Instr.sliceBounds, run_sliceBound q3 this, run_sliceBound q2 hh]
  · simp [Instr.sliceBounds, run_sliceBound q1 hl]
  · simp at hx
  · simp [Instr.sliceBounds, run_sliceBound q2 hh, run_sliceBound q1 hl]
  · have := hm _ rfl
    simp [Instr.sliceBounds, run_sliceBound q3 this, run_sliceBound q2 hh, run_sliceBound q1 hl]
theorem run_sl {t e : TypeId} {sz : Nat} (ht : P.underlying t = some (.slice e)) (hs : sizeT P e = some sz) {p : Option (Nat × Nat)} {sv len : Nat} {cap : Option Nat} {u : Value} (hu : VR G n E (.slc p sv len cap) u)
    {lo hi mx : Option Value} {l h m : Option Nat} (h1 : BdR lo l) (h2 : BdR hi h) (h3 : BdR mx m) (hx : mx.isSome = true → hi.isSome = true) (hsz : p.isNone = true ∨ sv = sz)
    (hm : leO m (limOf p len cap) = true) (hh : h.getD len ≤ m.getD (limOf p len cap)) (hl : l.getD 0 ≤ h.getD len) :
    ∃ u', (Instr.sliceAt t u lo hi mx).run P w = .ok u' w ∧
      VR G n E (.slc (p.map fun q => (q.1, q.2 + l.getD 0 * sz)) sv (h.getD len - l.getD 0) (capOf m cap (l.getD 0))) u' := by
  have hm : ∀ q, m = some q → q ≤ limOf p len cap := by
    intro q hq; subst hq; simpa [leO] using hm
  cases p with
  | none =>
    obtain ⟨rfl, rfl⟩ := hu
    simp only [limOf] at hm hh
    have hm0 : m.getD 0 = 0 := by cases m with | none => rfl | some q => have := hm q rfl; simp; omega
    have hrun : (Instr.sliceBounds true 0 0 lo hi mx).run P w = .ok (l.getD 0, h.getD 0, m.getD 0) w := run_bounds h1 h2 h3 (fun q hq => by have := hm q hq; omega) (by omega) hl hx
    refine ⟨.slice none 0 0, ?_, ⟨by omega, rfl⟩⟩
    have e1 : h.getD 0 = 0 := by omega
    have e2 : l.getD 0 = 0 := by omega
    simp [Instr.sliceAt, run_underlying ht, Instr.slice, hrun, run_sizeOf hs, hm0, e1, e2]
  | some p =>
    obtain ⟨b, off⟩ := p
    obtain ⟨hb, a, c, rfl, hlc, hcap, hadr⟩ := hu
    simp only [limOf] at hm hh
    have hsz' : sv = sz := hsz.resolve_left (by simp)
    subst hsz'
    have hlim : cap.getD len ≤ c := by
      cases cap with
      | none => exact hlc
      | some k => have := hcap k rfl; simp; omega
    have hmc : m.getD c ≤ c := by
      cases m with
      | none => exact Nat.le_refl _
      | some q => have := hm q rfl; simp; omega
    have hhm : h.getD len ≤ m.getD c := by
      cases m with
      | none => simp at hh ⊢; omega
      | some q => simpa using hh
    have hrun : (Instr.sliceBounds true len c lo hi mx).run P w = .ok (l.getD 0, h.getD len, m.getD c) w := run_bounds h1 h2 h3 (fun q hq => by have := hm q hq; omega) hhm hl hx
    refine ⟨.slice (some (if m.getD c = l.getD 0 then a else a.add (l.getD 0 * sv))) (h.getD len - l.getD 0) (m.getD c - l.getD 0), ?_, ⟨hb, _, _, rfl, by omega, ?_, ?_⟩⟩
    · simp only [Instr.sliceAt, Sem.run_bind, run_underlying ht, Result.andThen_ok, Instr.slice, hrun, run_sizeOf hs, Sem.run_pure]
      split <;> rfl
    · intro k hk
      cases m with
      | none =>
        simp [capOf] at hk
        obtain ⟨k0, hk0, rfl⟩ := hk
        have := hcap k0 hk0
        simp; omega
      | some q => simp [capOf] at hk; simp; omega
    · intro hpos
      have hc : 0 < c := by omega
      obtain ⟨ha, hC⟩ := hadr hc
      rw [if_neg (by omega), ha]
      refine ⟨?_, ?_⟩
      · unfold Addr.add
        split
        · rename_i h0; rw [h0]; rfl
        · simp [Nat.add_assoc]
      · have : (m.getD c - l.getD 0) * sv + l.getD 0 * sv ≤ c * sv := by
          rw [← Nat.add_mul]
          exact Nat.mul_le_mul_right _ (by omega)
        show off + l.getD 0 * sv + (m.getD c - l.getD 0) * sv ≤ (E b).C
        omega
theorem run_slS {t : TypeId} (ht : P.underlying t = some .string) {s : List UInt8} {lo hi : Option Value} {l h : Option Nat} (h1 : BdR lo l) (h2 : BdR hi h) (hh : h.getD s.length ≤ s.length) (hl : l.getD 0 ≤ h.getD s.length) :
    (Instr.sliceAt t (.string ⟨⟨s⟩⟩) lo hi none).run P w = .ok (.string ⟨⟨(s.take (h.getD s.length)).drop (l.getD 0)⟩⟩) w := by
  have hrun : (Instr.sliceBounds false s.length s.length lo hi none).run P w = .ok (l.getD 0, h.getD s.length, s.length) w := by
    have := run_bounds (P := P) (w := w) (isS := false) (len := s.length) (cap := s.length) (mx := none) (m := none) h1 h2 trivial (fun q hq => by cases hq) hh hl (by simp)
    simpa using this
  simp [Instr.sliceAt, run_underlying ht, Instr.slice, bs_size, hrun, bs_extract]
/-! ### Filling a template -/
theorem foldl_set (off : Nat) (l : List Value) : ∀ (k : Nat) (cells : Array Value), ((l.zipIdx k).foldl (fun (cs : Array Value) (p : Value × Nat) => cs.setIfInBounds (off + p.2) p.1) cells).size = cells.size ∧
    ∀ i, ((l.zipIdx k).foldl (fun (cs : Array Value) (p : Value × Nat) => cs.setIfInBounds (off + p.2) p.1) cells)[i]? = if off + k ≤ i ∧ i < off + k + l.length ∧ i < cells.size then l[i - (off + k)]? else cells[i]? := by
  induction l with
  | nil =>
    intro k cells
    refine ⟨rfl, fun i => ?_⟩
    rw [if_neg (by simp; omega)]; rfl
  | cons v l ih =>
    intro k cells
    simp only [List.zipIdx_cons, List.foldl_cons]
    obtain ⟨h1, h2⟩ := ih (k + 1) (cells.setIfInBounds (off + k) v)
    refine ⟨by rw [h1]; simp, fun i => ?_⟩
    rw [h2, Array.size_setIfInBounds]
    by_cases hi : i < cells.size
    · by_cases e : i = off + k
      · subst e
        rw [if_neg (by omega), if_pos (by simp; exact hi)]
        simp [hi]
      · by_cases hr : off + (k + 1) ≤ i ∧ i < off + (k + 1) + l.length
        · rw [if_pos ⟨hr.1, hr.2, hi⟩, if_pos ⟨by omega, by simp; omega, hi⟩]
          rw [show i - (off + k) = (i - (off + (k + 1))) + 1 by omega]; rfl
        · rw [if_neg (by omega), if_neg (by simp; omega), Array.getElem?_setIfInBounds_ne (by omega)]
    · rw [if_neg (by omega), if_neg (by omega)]
      rw [Array.getElem?_eq_none (by simp; omega), Array.getElem?_eq_none (by omega)]
theorem fill_VRs {place : Nat → Option (Nat × Nat)} : ∀ (is : List (Nat × Value)) (pl : List (Nat × Nat)) (vs cells cells' : List AV) (us : Array Value), Am.fill cells pl vs = some cells' → VRs G n E cells us.toList →
    mapO (fun (p : Nat × Value) => place p.1) is = some pl → VRs G n E vs (is.map (·.2)) → ∃ us', Instr.fill place us is = some us' ∧ VRs G n E cells' us'.toList
  | [], pl, vs, cells, cells', us, h, hu, hp, hv => by
    simp [mapO] at hp; subst hp
    have : vs = [] := by cases vs with | nil => rfl | cons a as => obtain ⟨_, _, e, _⟩ := hv; simp at e
    subst this
    simp [Am.fill] at h; subst h
    exact ⟨us, rfl, hu⟩
  | (i, u) :: is, pl, vs, cells, cells', us, h, hu, hp, hv => by
    unfold mapO at hp
    cases h1 : place i with
    | none => simp [h1] at hp
    | some q =>
      cases h2 : mapO (fun (p : Nat × Value) => place p.1) is with
      | none => simp [h1, h2] at hp
      | some pl' =>
        simp [h1, h2] at hp
        subst hp
        obtain ⟨off, sz⟩ := q
        cases vs with
        | nil => have hv' : List.map (·.2) ((i, u) :: is) = [] := hv; simp at hv'
        | cons v vs =>
        obtain ⟨u0, r0, e0, hv1, hv2⟩ := hv
        simp only [List.map_cons, List.cons.injEq] at e0
        obtain ⟨rfl, rfl⟩ := e0
        unfold Am.fill at h
        split at h
        · rename_i hc
          have hvc := VR.cells hv1 hc.2.2
          have hul := hu.length
          have hvl := hvc.length
          simp only [Array.length_toList] at hul hvl
          obtain ⟨f1, f2⟩ := foldl_set off u.cells.toList 0 us
          have hz : u.cells.zipIdx.foldl (fun (cs : Array Value) (p : Value × Nat) => cs.setIfInBounds (off + p.2) p.1) us = (u.cells.toList.zipIdx 0).foldl (fun (cs : Array Value) (p : Value × Nat) => cs.setIfInBounds (off + p.2) p.1) us := by
            rw [← Array.foldl_toList]; simp
          rw [← hz] at f1 f2
          unfold Instr.fill
          simp only [h1]
          rw [if_neg (by simp; omega)]
          refine fill_VRs is pl' vs _ cells' _ h ?_ h2 hv2
          refine VRs.of_get (by rw [Array.length_toList, f1, hul, splice_length (by omega)]) (fun j a hj => ?_)
          rw [splice_get (by omega)] at hj
          rw [Array.getElem?_toList, f2 j]
          have hjl : j < cells.length := by
            by_cases q1 : j < off
            · omega
            · by_cases q2 : j < off + v.cells.length
              · omega
              · rw [if_neg q1, if_neg q2] at hj
                exact (List.getElem?_eq_some_iff.1 hj).1
          by_cases q1 : j < off
          · rw [if_pos q1] at hj
            rw [if_neg (by omega), ← Array.getElem?_toList]
            exact hu.get _ _ hj
          · rw [if_neg q1] at hj
            by_cases q2 : j < off + v.cells.length
            · rw [if_pos q2] at hj
              rw [if_pos ⟨by omega, by simp; omega, by omega⟩]
              exact hvc.get _ _ hj
            · rw [if_neg q2] at hj
              rw [if_neg (by simp; omega), ← Array.getElem?_toList]
              exact hu.get _ _ hj
        · cases h
end Go.Am

/- Each operation that does not look at the heap, as the translation makes it: it gives what the model's operation gives. -/
set_option linter.unusedVariables false
set_option linter.unusedSimpArgs false
namespace Go.Am
open Go.RowKit
variable {G : Nat → Nat} {P : Program}
theorem with1_eq {o opc : AOpc} {x : Operand} {args : List AOpd} (h : with1 G o x = some (opc, args)) : ∃ x', opd G x = some x' ∧ opc = o ∧ args = [x'] := by
  unfold with1 at h
  cases h1 : opd G x with
  | none => simp [h1] at h
  | some x' => simp [h1] at h; exact ⟨x', rfl, h.1.symm, h.2.symm⟩
theorem withM_eq {n : Nat} {opc : AOpc} {x : Operand} {args : List AOpd} (h : withM G n x = some (opc, args)) : ∃ x', opd G x = some x' ∧ opc = .w .call ∧ args = [.c (.fn n [] []), x'] := by
  unfold withM at h
  cases h1 : opd G x with
  | none => simp [h1] at h
  | some x' => simp [h1] at h; exact ⟨x', rfl, h.1.symm, h.2.symm⟩
theorem with2_eq {o opc : AOpc} {x y : Operand} {args : List AOpd} (h : with2 G o x y = some (opc, args)) : ∃ x' y', opd G x = some x' ∧ opd G y = some y' ∧ opc = o ∧ args = [x', y'] := by
  unfold with2 at h
  cases h1 : opd G x with
  | none => simp [h1] at h
  | some x' =>
    cases h2 : opd G y with
    | none => simp [h1, h2] at h
    | some y' => simp [h1, h2] at h; exact ⟨x', y', rfl, rfl, h.1.symm, h.2.symm⟩
theorem withs_eq {o opc : AOpc} {xs : List Operand} {args : List AOpd} (h : withs G o xs = some (opc, args)) : opds G xs = some args ∧ opc = o := by
  unfold withs at h
  cases h1 : opds G xs with
  | none => simp [h1] at h
  | some xs' => simp [h1] at h; exact ⟨by rw [h.2], h.1.symm⟩
theorem VRs.inv_cons {n : Nat} {E : Nat → Ent} {as : List AV} {u : Value} {us : List Value} (h : VRs G n E as (u :: us)) : ∃ a as', as = a :: as' ∧ VR G n E a u ∧ VRs G n E as' us := by
  cases as with
  | nil => cases (show u :: us = [] from h)
  | cons a as' =>
    obtain ⟨u', us', e, h1, h2⟩ := h
    simp at e
    obtain ⟨rfl, rfl⟩ := e
    exact ⟨a, as', rfl, h1, h2⟩
theorem VRs.inv_nil {n : Nat} {E : Nat → Ent} {as : List AV} (h : VRs G n E as []) : as = [] := by
  cases as with
  | nil => rfl
  | cons a as' => obtain ⟨_, _, e, _⟩ := h; cases e
theorem run_eqP_same {w : World} {op : BinOp} (ho : op = .eql ∨ op = .neq) {t : TypeId} (hp : ptrT P t = true) (ad : Addr) (x y : Operand) :
    ((do eqGuard op t x y (.pointer (some ad)) (.pointer (some ad)); Go.binOp op t (.pointer (some ad)) (.pointer (some ad)) : Sem Value)).run P w = .ok (.bool (true != (op == .neq))) w := by
  unfold ptrT at hp
  cases hu : P.underlying t with
  | none => simp [hu] at hp
  | some d =>
    cases d <;> simp [hu] at hp
    rename_i e
    cases hz : sizeT P e with
    | none => simp [hz] at hp
    | some n =>
      have h : ∀ d : Nat, (Op.equalIn (d + 1) t (.pointer (some ad)) (.pointer (some ad))).run P w = .ok true w := fun d => by
        simp [Op.equalIn, run_underlying hu, run_sizeOf hz, run_sameAddr_same]
      have h0 : (Op.equalIn Op.maxDepth t (.pointer (some ad)) (.pointer (some ad))).run P w = .ok true w := h 9999
      rcases ho with rfl | rfl
      · simp [eqGuard, Go.binOp, Op.equal, h0]
      · simp [eqGuard, Go.binOp, Op.equal, h0]
/-- What an operation leaves: a value, the heap and the world behind it. -/
def Out (P : Program) (G : Nat → Nat) (B : Prot) (w0 : Base) (E : Nat → Ent) (H : AHeap) (w : World) (s : Sem Next) (v : AV) (H' : AHeap) : Prop :=
  ∃ u w' E', (s.run P w = .ok (.value u) w' ∨ (s.run P w = .ok .skip w' ∧ u = Go.undef)) ∧ VR G H'.next E' v u ∧ H.next ≤ H'.next ∧ Ext H.next E E' ∧ HRel G B w0 E' H' w'
section
variable {B : Prot} {w0 : Base} {w : World} {E : Nat → Ent} {H : AHeap}
theorem Out.pure (h : HRel G B w0 E H w) {s : Sem Next} {v : AV} {u : Value} (hr : s.run P w = .ok (.value u) w) (hv : VR G H.next E v u) : Out P G B w0 E H w s v H :=
  ⟨u, w, E, .inl hr, hv, Nat.le_refl _, Ext.refl _ _, h⟩
theorem osem_p {C : CallF} {o : POp} {vs : List AV} {v : AV} {H H' : AHeap} (h : osem C (.p o) vs H = some (v, H')) : psem o vs = some v ∧ H' = H := by
  unfold osem at h
  cases h1 : psem o vs with
  | none => simp [h1] at h
  | some x => simp [h1] at h; exact ⟨by rw [h.1], h.2.symm⟩
theorem osem_r {C : CallF} {o : ROp} {vs : List AV} {v : AV} {H H' : AHeap} (h : osem C (.r o) vs H = some (v, H')) : rsem o vs H = some v ∧ H' = H := by
  unfold osem at h
  cases h1 : rsem o vs H with
  | none => simp [h1] at h
  | some x => simp [h1] at h; exact ⟨by rw [h.1], h.2.symm⟩
variable {C : CallF} {o : Oper} {opc : AOpc} {args : List AOpd} {env : Env} {a : Act} {v : AV} {H' : AHeap}
theorem s_move (x : Operand) (hop : o.op = .move x ∨ o.op = .assign x) (hc : with1 G (.p .mv) x = some (opc, args)) (he : EnvR G H.next E env a) (h : HRel G B w0 E H w) (hs : osem C opc (args.map env.ev) H = some (v, H')) :
    Out P G B w0 E H w (execOp a.eval o) v H' := by
  obtain ⟨x', h1, rfl, rfl⟩ := with1_eq hc
  obtain ⟨h2, rfl⟩ := osem_p hs
  simp [psem] at h2
  subst h2
  refine Out.pure h (u := a.eval x) ?_ (opd_VR he h1)
  rcases hop with hop | hop <;> simp [execOp, hop]
theorem s_pick (c x y : Operand) (hop : o.op = .pick c x y) (hc : withs G (.p .pick) [c, x, y] = some (opc, args)) (he : EnvR G H.next E env a) (h : HRel G B w0 E H w) (hs : osem C opc (args.map env.ev) H = some (v, H')) :
    Out P G B w0 E H w (execOp a.eval o) v H' := by
  obtain ⟨h1, rfl⟩ := withs_eq hc
  obtain ⟨h2, rfl⟩ := osem_p hs
  have hv := opds_VRs he h1
  obtain ⟨a1, r1, e1, q2, hv⟩ := hv.inv_cons
  obtain ⟨a2, r2, rfl, q5, hv⟩ := hv.inv_cons
  obtain ⟨a3, r3, rfl, q8, hv⟩ := hv.inv_cons
  obtain rfl := hv.inv_nil
  rw [e1] at h2
  cases a1 <;> simp [psem] at h2
  rename_i b
  subst h2
  have hb : a.eval c = .bool b := q2
  cases b
  · exact Out.pure h (u := a.eval y) (by simp [execOp, hop, hb, asBool]) q8
  · exact Out.pure h (u := a.eval x) (by simp [execOp, hop, hb, asBool]) q5
theorem s_nilC (x : Operand) (hop : o.op = .nilCheck x) (hc : with1 G (.p .nilC) x = some (opc, args)) (he : EnvR G H.next E env a) (h : HRel G B w0 E H w) (hs : osem C opc (args.map env.ev) H = some (v, H')) :
    Out P G B w0 E H w (execOp a.eval o) v H' := by
  obtain ⟨x', h1, rfl, rfl⟩ := with1_eq hc
  obtain ⟨h2, rfl⟩ := osem_p hs
  have hv := opd_VR he h1
  simp only [List.map_cons, List.map_nil, psem] at h2
  have e : v = env.ev x' ∧ (execOp a.eval o).run P w = .ok (.value (a.eval x)) w := by
    generalize env.ev x' = z at *
    cases z with
    | undef => simp at h2
    | bool b => simp at h2; refine ⟨h2.symm, ?_⟩; rw [show a.eval x = _ from hv]; simp [execOp, hop, show a.eval x = _ from hv]
    | int k i => simp at h2; refine ⟨h2.symm, ?_⟩; rw [show a.eval x = _ from hv]; simp [execOp, hop, show a.eval x = _ from hv]
    | str s => simp at h2; refine ⟨h2.symm, ?_⟩; rw [show a.eval x = _ from hv]; simp [execOp, hop, show a.eval x = _ from hv]
    | ptr p =>
      cases p with
      | none => simp at h2
      | some p => simp at h2; refine ⟨h2.symm, ?_⟩; rw [hv.2]; simp [execOp, hop, hv.2]
    | slc p z l c =>
      simp at h2; refine ⟨h2.symm, ?_⟩
      cases p with
      | none => rw [hv.2]; simp [execOp, hop, hv.2]
      | some p => obtain ⟨_, a', c', e, _⟩ := hv; rw [e]; simp [execOp, hop, e]
    | map m =>
      simp at h2; refine ⟨h2.symm, ?_⟩
      cases m with
      | none => rw [show a.eval x = _ from hv]; simp [execOp, hop, show a.eval x = _ from hv]
      | some p => rw [hv.2]; simp [execOp, hop, hv.2]
    | fn f b c => simp at h2; refine ⟨h2.symm, ?_⟩; obtain ⟨f', us, ws, _, e, _⟩ := hv; rw [e]; simp [execOp, hop, e]
    | nilFn => simp at h2
    | yld b => simp at h2; refine ⟨h2.symm, ?_⟩; rw [hv.2]; simp [execOp, hop, hv.2]
    | agg cs => simp at h2; refine ⟨h2.symm, ?_⟩; obtain ⟨us, e, _⟩ := hv; rw [e]; simp [execOp, hop, e]
    | tup cs => simp at h2; refine ⟨h2.symm, ?_⟩; obtain ⟨us, e, _⟩ := hv; rw [e]; simp [execOp, hop, e]
    | nilI => simp at h2
    | iface t z => simp at h2; refine ⟨h2.symm, ?_⟩; obtain ⟨us, e, _⟩ := hv; rw [e]; simp [execOp, hop, e]
  rw [e.1]
  exact Out.pure h e.2 hv
theorem s_bin (op : BinOp) (t : TypeId) (x y : Operand) (yt : TypeId) (hop : o.op = .binOp op t x y yt) (hc : compileBin P G op t x y = some (opc, args)) (he : EnvR G H.next E env a) (h : HRel G B w0 E H w) (hs : osem C opc (args.map env.ev) H = some (v, H')) :
    Out P G B w0 E H w (execOp a.eval o) v H' := by
  have fin : ∀ u, ((do eqGuard op t x y (a.eval x) (a.eval y); Go.binOp op t (a.eval x) (a.eval y) : Sem Value)).run P w = .ok u w → VR G H.next E v u → H' = H → Out P G B w0 E H w (execOp a.eval o) v H' := by
    intro u hr hv e
    subst e
    refine Out.pure h (u := u) ?_ hv
    rw [Sem.run_bind] at hr
    simp only [execOp, hop, Sem.run_bind]
    revert hr
    cases (eqGuard op t x y (a.eval x) (a.eval y)).run P w with
    | ok q w1 => intro hr; simp only [Result.andThen_ok] at hr ⊢; rw [hr]; simp
    | halt q w1 => intro hr; simp at hr
  have plain : with2 G (.p (.bin op)) x y = some (opc, args) → Out P G B w0 E H w (execOp a.eval o) v H' := by
    intro hc
    obtain ⟨x', y', h1, h2, rfl, rfl⟩ := with2_eq hc
    obtain ⟨h3, rfl⟩ := osem_p hs
    simp only [List.map_cons, List.map_nil, psem] at h3
    obtain ⟨u, hr, hv⟩ := run_binOp (P := P) (w := w) (t := t) (x := x) (y := y) h3 (opd_VR he h1) (opd_VR he h2)
    exact fin u hr hv rfl
  have eqs : op = .eql ∨ op = .neq → Out P G B w0 E H w (execOp a.eval o) v H' := by
    intro ho
    have hc' : (match P.underlying t with
        | some (.int _) | some .string => with2 G (.p (.bin op)) x y
        | some .bool => with2 G (.p (.eqB (op == .neq))) x y
        | some (.struct _) | some (.array _ _) => match structFlat P t with | some ks => with2 G (.p (.eqCells (op == .neq) ks)) x y | none => none
        | _ => match nilKind P t with
          | some k => if isNilC k y then with1 G (.p (.isNil k (op == .neq))) x else if isNilC k x then with1 G (.p (.isNil k (op == .neq))) y else if k = .ptr ∧ ptrT P t = true then with2 G (.p (.eqP (op == .neq))) x y else none
          | none => none) = some (opc, args) := by
      rcases ho with rfl | rfl <;> exact hc
    have nils : (match nilKind P t with
          | some k => if isNilC k y then with1 G (.p (.isNil k (op == .neq))) x else if isNilC k x then with1 G (.p (.isNil k (op == .neq))) y else if k = .ptr ∧ ptrT P t = true then with2 G (.p (.eqP (op == .neq))) x y else none
          | none => none) = some (opc, args) → Out P G B w0 E H w (execOp a.eval o) v H' := by
      intro hc
      cases hk : nilKind P t with
      | none => simp [hk] at hc
      | some k =>
        simp only [hk] at hc
        split at hc
        · rename_i hy
          obtain ⟨x', h1, rfl, rfl⟩ := with1_eq hc
          obtain ⟨h3, rfl⟩ := osem_p hs
          simp only [List.map_cons, List.map_nil, psem] at h3
          cases hb : isNil k (env.ev x') with
          | none => simp [hb] at h3
          | some b =>
            simp [hb] at h3
            subst h3
            have := (run_isNil (P := P) (w := w) ho hk hb (opd_VR he h1) x y).1
            rw [← nil_val (a := a) hy] at this
            exact fin _ this rfl rfl
        · split at hc
          · rename_i hx
            obtain ⟨x', h1, rfl, rfl⟩ := with1_eq hc
            obtain ⟨h3, rfl⟩ := osem_p hs
            simp only [List.map_cons, List.map_nil, psem] at h3
            cases hb : isNil k (env.ev x') with
            | none => simp [hb] at h3
            | some b =>
              simp [hb] at h3
              subst h3
              have := (run_isNil (P := P) (w := w) ho hk hb (opd_VR he h1) x y).2
              rw [← nil_val (a := a) hx] at this
              exact fin _ this rfl rfl
          · split at hc
            · rename_i hkp
              obtain ⟨hkp, hpt⟩ := hkp
              subst hkp
              obtain ⟨x', y', h1, h2, rfl, rfl⟩ := with2_eq hc
              obtain ⟨h3, rfl⟩ := osem_p hs
              have v1 := opd_VR he h1
              have v2 := opd_VR he h2
              simp only [List.map_cons, List.map_nil] at h3
              cases e1 : env.ev x' <;> rw [e1] at h3 v1 <;> simp only [psem, reduceCtorEq] at h3
              cases e2 : env.ev y' <;> rw [e2] at h3 v2 <;> simp only [psem, reduceCtorEq] at h3
              rename_i p q
              cases p with
              | none =>
                simp only [Option.some.injEq] at h3
                subst h3
                have := (run_isNil (P := P) (w := w) ho hk (show isNil .ptr (.ptr q) = some q.isNone from rfl) v2 x y).2
                rw [show nilOf .ptr = a.eval x from (show a.eval x = _ from v1).symm] at this
                exact fin _ this rfl rfl
              | some p =>
                cases q with
                | some q =>
                  simp only at h3
                  split at h3
                  · rename_i hpq
                    subst hpq
                    simp only [Option.some.injEq] at h3
                    subst h3
                    obtain ⟨b, off⟩ := p
                    have := run_eqP_same (P := P) (w := w) ho hpt ⟨(E b).g, (E b).o + off, none⟩ x y
                    rw [← show a.eval x = _ from v1.2] at this
                    conv at this => lhs; rw [show a.eval x = a.eval y from v1.2.trans v2.2.symm]
                    rw [show a.eval x = a.eval y from v1.2.trans v2.2.symm] at fin
                    exact fin _ this rfl rfl
                  · cases h3
                | none =>
                  simp only [Option.some.injEq] at h3
                  subst h3
                  have := (run_isNil (P := P) (w := w) ho hk (show isNil .ptr (.ptr (some p)) = some false from rfl) v1 x y).1
                  rw [show nilOf .ptr = a.eval y from (show a.eval y = _ from v2).symm] at this
                  exact fin _ this rfl rfl
            · cases hc
    have structs : (match structFlat P t with | some ks => with2 G (.p (.eqCells (op == .neq) ks)) x y | none => none) = some (opc, args) → Out P G B w0 E H w (execOp a.eval o) v H' := by
      intro hc
      cases hk : structFlat P t with
      | none => simp [hk] at hc
      | some ks =>
        simp only [hk] at hc
        obtain ⟨x', y', h1, h2, rfl, rfl⟩ := with2_eq hc
        obtain ⟨h3, rfl⟩ := osem_p hs
        have v1 := opd_VR he h1
        have v2 := opd_VR he h2
        simp only [List.map_cons, List.map_nil] at h3
        cases e1 : env.ev x' <;> rw [e1] at h3 v1 <;> simp only [psem, reduceCtorEq] at h3
        cases e2 : env.ev y' <;> rw [e2] at h3 v2 <;> simp only [psem, reduceCtorEq] at h3
        rename_i as bs
        cases hb : eqCells ks as bs with
        | none => simp [hb] at h3
        | some b =>
          simp [hb] at h3
          subst h3
          obtain ⟨us, q1, q2⟩ := v1
          obtain ⟨ws, q3, q4⟩ := v2
          have := run_eqCells (P := P) (w := w) ho hk hb q2 q4 x y
          rw [← q1, ← q3] at this
          exact fin _ this rfl rfl
    cases hd : P.underlying t with
    | none => simp only [hd] at hc'; exact nils hc'
    | some d =>
      cases d <;> simp only [hd] at hc' <;> first | exact nils hc' | exact plain hc' | exact structs hc' | skip
      obtain ⟨x', y', h1, h2, rfl, rfl⟩ := with2_eq hc'
      obtain ⟨h3, rfl⟩ := osem_p hs
      have v1 := opd_VR he h1
      have v2 := opd_VR he h2
      simp only [List.map_cons, List.map_nil] at h3
      cases e1 : env.ev x' <;> rw [e1] at h3 v1 <;> simp only [psem, reduceCtorEq] at h3
      cases e2 : env.ev y' <;> rw [e2] at h3 v2 <;> simp only [psem, reduceCtorEq] at h3
      rename_i b1 b2
      simp at h3
      subst h3
      have := run_eqB (P := P) (w := w) (op := op) (x := x) (y := y) (a := b1) (b := b2) hd ho
      rw [← show a.eval x = _ from v1, ← show a.eval y = _ from v2] at this
      exact fin _ this rfl rfl
  cases op <;> first | exact plain hc | exact eqs (.inl rfl) | exact eqs (.inr rfl)
end
end Go.Am

/- Each operation that does not look at the heap, as the translation makes it: the others. -/
set_option linter.unusedVariables false
set_option linter.unusedSimpArgs false
namespace Go.Am
open Go.RowKit
variable {G : Nat → Nat} {P : Program}
section
variable {B : Prot} {w0 : Base} {w : World} {E : Nat → Ent} {H : AHeap}
variable {C : CallF} {o : Oper} {opc : AOpc} {args : List AOpd} {env : Env} {a : Act} {v : AV} {H' : AHeap}
theorem s_fail (x : Operand) (hc : with1 G (.p .fail) x = some (opc, args)) (hs : osem C opc (args.map env.ev) H = some (v, H')) :
    Out P G B w0 E H w (execOp a.eval o) v H' := by
  obtain ⟨x', h1, rfl, rfl⟩ := with1_eq hc
  obtain ⟨h2, rfl⟩ := osem_p hs
  simp [psem] at h2
theorem s_un (op : UnOp) (t : TypeId) (x : Operand) (hop : o.op = .unOp op t x) (hc : with1 G (.p (.un op)) x = some (opc, args)) (he : EnvR G H.next E env a) (h : HRel G B w0 E H w) (hs : osem C opc (args.map env.ev) H = some (v, H')) :
    Out P G B w0 E H w (execOp a.eval o) v H' := by
  obtain ⟨x', h1, rfl, rfl⟩ := with1_eq hc
  obtain ⟨h2, rfl⟩ := osem_p hs
  have hv := opd_VR he h1
  simp only [List.map_cons, List.map_nil, psem] at h2
  cases e : env.ev x' <;> rw [e] at h2 hv <;> simp only [unOp, reduceCtorEq] at h2
  · rename_i b
    cases op <;> simp at h2
    subst h2
    exact Out.pure h (u := .bool (!b)) (by simp [execOp, hop, show a.eval x = _ from hv, Op.unary]) rfl
  · rename_i k i
    cases op <;> simp at h2 <;> subst h2
    · exact Out.pure h (u := .int k (k.wrap (0 - i))) (by simp [execOp, hop, show a.eval x = _ from hv, Op.unary, Op.intArith]) (by simp [VR])
    · exact Out.pure h (u := _) (by simp [execOp, hop, show a.eval x = _ from hv, Op.unary, Op.intBits]) rfl
theorem s_convP (s d : TypeId) (x : Operand) (hop : o.op = .convert s d x) (po : POp) (hpo : (∃ k sk, P.underlying s = some (.int sk) ∧ P.underlying d = some (.int k) ∧ po = .conv k) ∨ (∃ sk, P.underlying s = some (.int sk) ∧ P.underlying d = some .string ∧ po = .i2s))
    (hc : with1 G (.p po) x = some (opc, args)) (he : EnvR G H.next E env a) (h : HRel G B w0 E H w) (hs : osem C opc (args.map env.ev) H = some (v, H')) :
    Out P G B w0 E H w (execOp a.eval o) v H' := by
  obtain ⟨x', h1, rfl, rfl⟩ := with1_eq hc
  obtain ⟨h2, rfl⟩ := osem_p hs
  have hv := opd_VR he h1
  simp only [List.map_cons, List.map_nil] at h2
  rcases hpo with ⟨k, sk, q1, q2, rfl⟩ | ⟨sk, q1, q2, rfl⟩
  · cases e : env.ev x' <;> rw [e] at h2 hv <;> simp only [psem, reduceCtorEq] at h2
    rename_i j i
    simp at h2
    subst h2
    exact Out.pure h (u := .int k (k.wrap i)) (by simp [execOp, hop, show a.eval x = _ from hv, convert, run_underlying q1, run_underlying q2, Conv.intToInt]) rfl
  · cases e : env.ev x' <;> rw [e] at h2 hv <;> simp only [psem, reduceCtorEq] at h2
    rename_i j i
    simp at h2
    subst h2
    exact Out.pure h (u := .string (Utf8.encode i)) (by simp [execOp, hop, show a.eval x = _ from hv, convert, run_underlying q1, run_underlying q2, Conv.intToString]) (by show _ = _; rw [bs_data])
/-- A string that is turned into a string: only a string comes to it. -/
theorem s_convS (s d : TypeId) (x : Operand) (hop : o.op = .convert s d x) (q1 : P.underlying s = some .string) (q2 : P.underlying d = some .string)
    (hc : with1 G (.p (.slS false false)) x = some (opc, args)) (he : EnvR G H.next E env a) (h : HRel G B w0 E H w) (hs : osem C opc (args.map env.ev) H = some (v, H')) :
    Out P G B w0 E H w (execOp a.eval o) v H' := by
  obtain ⟨x', h1, rfl, rfl⟩ := with1_eq hc
  obtain ⟨h2, rfl⟩ := osem_p hs
  have hv := opd_VR he h1
  simp only [List.map_cons, List.map_nil, psem] at h2
  cases e : env.ev x' <;> rw [e] at h2 hv <;> simp only [sliceS, bound, reduceCtorEq] at h2
  rename_i l
  simp at h2
  subst h2
  exact Out.pure h (u := .string ⟨⟨l⟩⟩) (by simp [execOp, hop, show a.eval x = _ from hv, convert, run_underlying q1, run_underlying q2]) rfl
theorem s_ext (x : Operand) (i : Nat) (hop : o.op = .extract x i) (hc : with1 G (.p (.ext i)) x = some (opc, args)) (he : EnvR G H.next E env a) (h : HRel G B w0 E H w) (hs : osem C opc (args.map env.ev) H = some (v, H')) :
    Out P G B w0 E H w (execOp a.eval o) v H' := by
  obtain ⟨x', h1, rfl, rfl⟩ := with1_eq hc
  obtain ⟨h2, rfl⟩ := osem_p hs
  have hv := opd_VR he h1
  simp only [List.map_cons, List.map_nil] at h2
  cases e : env.ev x' <;> rw [e] at h2 hv <;> simp only [psem, reduceCtorEq] at h2
  obtain ⟨us, q1, q2⟩ := hv
  obtain ⟨u, q3, q4⟩ := q2.get _ _ h2
  have q5 : us[i]? = some u := by rw [← Array.getElem?_toList]; exact q3
  exact Out.pure h (u := u) (by simp [execOp, hop, q1, Instr.extract, q5]) q4
theorem s_field (t : TypeId) (x : Operand) (f : Nat) (hop : o.op = .field t x f) {fields : Array Field} (ht : P.underlying t = some (.struct fields)) {fd : Field} (hf : fields[f]? = some fd) {m : Nat} {g : Bool} (hm : sizeT P fd.type = some m) (hg : aggT P fd.type = some g)
    (hc : with1 G (.p (.fld fd.offset m g)) x = some (opc, args)) (he : EnvR G H.next E env a) (h : HRel G B w0 E H w) (hs : osem C opc (args.map env.ev) H = some (v, H')) :
    Out P G B w0 E H w (execOp a.eval o) v H' := by
  obtain ⟨x', h1, rfl, rfl⟩ := with1_eq hc
  obtain ⟨h2, rfl⟩ := osem_p hs
  have hv := opd_VR he h1
  simp only [List.map_cons, List.map_nil] at h2
  cases e : env.ev x' <;> rw [e] at h2 hv <;> simp only [psem, reduceCtorEq] at h2
  obtain ⟨us, q1, q2⟩ := hv
  obtain ⟨u, r1, r2⟩ := run_part (w := w) hm hg q2 h2
  exact Out.pure h (u := u) (by simp [execOp, hop, q1, Instr.field, run_underlying ht, hf, asAgg, r1]) r2
theorem s_idxS (t : TypeId) (x i : Operand) (hop : o.op = .index t x i) (ht : P.underlying t = some .string)
    (hc : with2 G (.p .idxS) x i = some (opc, args)) (he : EnvR G H.next E env a) (h : HRel G B w0 E H w) (hs : osem C opc (args.map env.ev) H = some (v, H')) :
    Out P G B w0 E H w (execOp a.eval o) v H' := by
  obtain ⟨x', y', h1, h2, rfl, rfl⟩ := with2_eq hc
  obtain ⟨h3, rfl⟩ := osem_p hs
  have v1 := opd_VR he h1
  have v2 := opd_VR he h2
  simp only [List.map_cons, List.map_nil] at h3
  cases e1 : env.ev x' <;> rw [e1] at h3 v1 <;> simp only [psem, reduceCtorEq] at h3
  cases e2 : env.ev y' <;> rw [e2] at h3 v2 <;> simp only [psem, reduceCtorEq] at h3
  rename_i s k j
  split at h3
  · rename_i hj
    cases hg : s[j.toNat]? with
    | none => simp [hg] at h3
    | some c =>
      simp [hg] at h3
      subst h3
      exact Out.pure h (u := .int .u8 c.toNat) (by simp [execOp, hop, show a.eval x = _ from v1, show a.eval i = _ from v2, Instr.index, asIntOf, run_underlying ht, hj, bs_get, hg]) rfl
  · cases h3
theorem s_idxA (t : TypeId) (x i : Operand) (hop : o.op = .index t x i) {len : Nat} {el : TypeId} (ht : P.underlying t = some (.array len el)) {m : Nat} {g : Bool} (hm : sizeT P el = some m) (hg : aggT P el = some g)
    (hc : with2 G (.p (.idxA len m g)) x i = some (opc, args)) (he : EnvR G H.next E env a) (h : HRel G B w0 E H w) (hs : osem C opc (args.map env.ev) H = some (v, H')) :
    Out P G B w0 E H w (execOp a.eval o) v H' := by
  obtain ⟨x', y', h1, h2, rfl, rfl⟩ := with2_eq hc
  obtain ⟨h3, rfl⟩ := osem_p hs
  have v1 := opd_VR he h1
  have v2 := opd_VR he h2
  simp only [List.map_cons, List.map_nil] at h3
  cases e1 : env.ev x' <;> rw [e1] at h3 v1 <;> simp only [psem, reduceCtorEq] at h3
  cases e2 : env.ev y' <;> rw [e2] at h3 v2 <;> simp only [psem, reduceCtorEq] at h3
  rename_i cs k j
  split at h3
  · rename_i hj
    obtain ⟨us, q1, q2⟩ := v1
    obtain ⟨u, r1, r2⟩ := run_part (w := w) hm hg q2 h3
    exact Out.pure h (u := u) (by simp [execOp, hop, q1, show a.eval i = _ from v2, Instr.index, asIntOf, run_underlying ht, hj, run_sizeOf hm, r1]) r2
  · cases h3
theorem add_at (g o j : Nat) : (⟨g, o, none⟩ : Addr).add j = ⟨g, o + j, none⟩ := by unfold Addr.add; split <;> simp_all
theorem s_fa (s : TypeId) (x : Operand) (f : Nat) (hop : o.op = .fieldAddr s x f) {fields : Array Field} (ht : P.underlying s = some (.struct fields)) {fd : Field} (hf : fields[f]? = some fd) {m : Nat} (hm : sizeT P fd.type = some m) (hm0 : m ≠ 0)
    (hc : with1 G (.p (.fa fd.offset)) x = some (opc, args)) (he : EnvR G H.next E env a) (h : HRel G B w0 E H w) (hs : osem C opc (args.map env.ev) H = some (v, H')) :
    Out P G B w0 E H w (execOp a.eval o) v H' := by
  obtain ⟨x', h1, rfl, rfl⟩ := with1_eq hc
  obtain ⟨h2, rfl⟩ := osem_p hs
  have hv := opd_VR he h1
  simp only [List.map_cons, List.map_nil] at h2
  cases e : env.ev x' <;> rw [e] at h2 hv <;> simp only [psem, reduceCtorEq] at h2
  rename_i p
  cases p with
  | none => simp at h2
  | some p =>
    obtain ⟨b, off⟩ := p
    simp at h2
    subst h2
    obtain ⟨q1, q2⟩ := hv
    refine Out.pure h (u := .pointer (some ⟨(E b).g, (E b).o + (off + fd.offset), none⟩)) ?_ ⟨q1, rfl⟩
    simp [execOp, hop, q2, Instr.fieldAt, run_underlying ht, hf, Instr.sureAddr, fieldPlace, run_sizeOf hm, hm0, add_at, Nat.add_assoc]
theorem s_ia (t : TypeId) (x i : Operand) (hop : o.op = .indexAddr t x i) {el : TypeId} (ht : P.underlying t = some (.slice el)) {m : Nat} (hm : sizeT P el = some m)
    (hc : with2 G (.p (.ia m)) x i = some (opc, args)) (he : EnvR G H.next E env a) (h : HRel G B w0 E H w) (hs : osem C opc (args.map env.ev) H = some (v, H')) :
    Out P G B w0 E H w (execOp a.eval o) v H' := by
  obtain ⟨x', y', h1, h2, rfl, rfl⟩ := with2_eq hc
  obtain ⟨h3, rfl⟩ := osem_p hs
  have v1 := opd_VR he h1
  have v2 := opd_VR he h2
  simp only [List.map_cons, List.map_nil] at h3
  cases e1 : env.ev x' <;> rw [e1] at h3 v1 <;> simp only [psem, reduceCtorEq] at h3
  rename_i p sz len cap
  cases p with
  | none => simp at h3
  | some p =>
    obtain ⟨b, off⟩ := p
    cases e2 : env.ev y' <;> rw [e2] at h3 v2 <;> simp only [reduceCtorEq] at h3
    rename_i k j
    split at h3
    · rename_i hj
      simp at h3
      subst h3
      obtain ⟨q1, ad, c, q2, q3, q4, q5⟩ := v1
      obtain ⟨q6, _⟩ := q5 (by omega)
      refine Out.pure h (u := .pointer (some ⟨(E b).g, (E b).o + (off + j.toNat * m), none⟩)) ?_ ⟨q1, rfl⟩
      simp [execOp, hop, q2, show a.eval i = _ from v2, Instr.indexAt, asIntOf, run_underlying ht, hj, run_sizeOf hm, q6, add_at, Nat.add_assoc]
    · cases h3
theorem s_iap (t : TypeId) (x i : Operand) (hop : o.op = .indexAddr t x i) {len : Nat} {el : TypeId} (ht : P.underlying t = some (.array len el)) {m : Nat} (hm : sizeT P el = some m)
    (hc : with2 G (.p (.iap len m)) x i = some (opc, args)) (he : EnvR G H.next E env a) (h : HRel G B w0 E H w) (hs : osem C opc (args.map env.ev) H = some (v, H')) :
    Out P G B w0 E H w (execOp a.eval o) v H' := by
  obtain ⟨x', y', h1, h2, rfl, rfl⟩ := with2_eq hc
  obtain ⟨h3, rfl⟩ := osem_p hs
  have v1 := opd_VR he h1
  have v2 := opd_VR he h2
  simp only [List.map_cons, List.map_nil] at h3
  cases e1 : env.ev x' <;> rw [e1] at h3 v1 <;> simp only [psem, reduceCtorEq] at h3
  rename_i p
  cases p with
  | none => simp at h3
  | some p =>
    obtain ⟨b, off⟩ := p
    cases e2 : env.ev y' <;> rw [e2] at h3 v2 <;> simp only [reduceCtorEq] at h3
    rename_i k j
    split at h3
    · rename_i hj
      simp at h3
      subst h3
      obtain ⟨q1, q2⟩ := v1
      refine Out.pure h (u := .pointer (some ⟨(E b).g, (E b).o + (off + j.toNat * m), none⟩)) ?_ ⟨q1, rfl⟩
      simp [execOp, hop, q2, show a.eval i = _ from v2, Instr.indexAt, asIntOf, run_underlying ht, hj, run_sizeOf hm, add_at, Nat.add_assoc, Instr.sureAddr]
    · cases h3
theorem s_mkF (f : FuncId) (first caps : Array Operand) (hop : o.op = .makeFunc (.func f) first caps) (hc : withs G (.p (.mkF (G f) first.size)) (first.toList ++ caps.toList) = some (opc, args)) (he : EnvR G H.next E env a) (h : HRel G B w0 E H w) (hs : osem C opc (args.map env.ev) H = some (v, H')) :
    Out P G B w0 E H w (execOp a.eval o) v H' := by
  obtain ⟨h1, rfl⟩ := withs_eq hc
  obtain ⟨h2, rfl⟩ := osem_p hs
  have hv := opds_VRs he h1
  simp only [psem, Option.some.injEq] at h2
  subst h2
  refine Out.pure h (u := .func (.func f) (first.map a.eval) (caps.map a.eval)) (by simp [execOp, hop, Instr.makeFunc]) ⟨f, _, _, rfl, rfl, ?_, ?_⟩
  · have := hv.take first.size
    simpa [List.take_append] using this
  · have := hv.drop first.size
    simpa [List.drop_append] using this
/-! ### The builtins that compute -/
theorem exec_builtin {c : Call} {b : Builtin} (hop : o.op = .call c) (hcal : c.callee = .builtin b) :
    execOp a.eval o = builtin b c.argTypes o.type (c.args.map fun | .const _ => true | _ => false) (c.args.map a.eval) := by
  simp only [execOp, hop, resolve, hcal]
  rfl
theorem get0 {α : Type} {xs : Array α} {x : α} {r : List α} (h : xs.toList = x :: r) : xs[0]? = some x := by rw [← Array.getElem?_toList, h]; rfl
theorem get1 {α : Type} {xs : Array α} {x y : α} {r : List α} (h : xs.toList = x :: y :: r) : xs[1]? = some y := by rw [← Array.getElem?_toList, h]; rfl
theorem map_get0 {xs : Array Operand} {x : Operand} {r : List Operand} (h : xs.toList = x :: r) : (xs.map a.eval)[0]? = some (a.eval x) := by rw [Array.getElem?_map, get0 h]; rfl
theorem map_get1 {xs : Array Operand} {x y : Operand} {r : List Operand} (h : xs.toList = x :: y :: r) : (xs.map a.eval)[1]? = some (a.eval y) := by rw [Array.getElem?_map, get1 h]; rfl
theorem s_len (c : Call) (hop : o.op = .call c) (hcal : c.callee = .builtin .len) {t : TypeId} {ts : List TypeId} {x : Operand} {xs : List Operand} (ht : c.argTypes.toList = t :: ts) (hx : c.args.toList = x :: xs)
    {e : TypeId} (hd : P.underlying t = some (.slice e)) (hc : with1 G (.p .len) x = some (opc, args)) (he : EnvR G H.next E env a) (h : HRel G B w0 E H w) (hs : osem C opc (args.map env.ev) H = some (v, H')) :
    Out P G B w0 E H w (execOp a.eval o) v H' := by
  obtain ⟨x', h1, rfl, rfl⟩ := with1_eq hc
  obtain ⟨h2, rfl⟩ := osem_p hs
  have hv := opd_VR he h1
  simp only [List.map_cons, List.map_nil] at h2
  cases e1 : env.ev x' <;> rw [e1] at h2 hv <;> simp only [psem, reduceCtorEq] at h2
  rename_i p sz len cap
  simp at h2
  subst h2
  have hu : ∃ ad c', a.eval x = .slice ad len c' := by
    cases p with
    | none => obtain ⟨rfl, q⟩ := hv; exact ⟨_, _, q⟩
    | some p => obtain ⟨_, ad, c', q, _⟩ := hv; exact ⟨_, _, q⟩
  obtain ⟨ad, c', q⟩ := hu
  refine Out.pure h (u := .int .i64 len) ?_ rfl
  rw [exec_builtin hop hcal]
  simp [builtin, Builtin.len_, get0 ht, map_get0 hx, run_underlying hd, q, goInt]
theorem s_lenStr (c : Call) (hop : o.op = .call c) (hcal : c.callee = .builtin .len) {t : TypeId} {ts : List TypeId} {x : Operand} {xs : List Operand} (ht : c.argTypes.toList = t :: ts) (hx : c.args.toList = x :: xs)
    (hd : P.underlying t = some .string) (hc : with1 G (.p .lenS) x = some (opc, args)) (he : EnvR G H.next E env a) (h : HRel G B w0 E H w) (hs : osem C opc (args.map env.ev) H = some (v, H')) :
    Out P G B w0 E H w (execOp a.eval o) v H' := by
  obtain ⟨x', h1, rfl, rfl⟩ := with1_eq hc
  obtain ⟨h2, rfl⟩ := osem_p hs
  have hv := opd_VR he h1
  simp only [List.map_cons, List.map_nil] at h2
  cases e1 : env.ev x' <;> rw [e1] at h2 hv <;> simp only [psem, reduceCtorEq] at h2
  simp at h2
  subst h2
  refine Out.pure h (u := _) ?_ rfl
  rw [exec_builtin hop hcal]
  simp [builtin, Builtin.len_, get0 ht, map_get0 hx, run_underlying hd, show a.eval x = _ from hv, goInt, bs_size]
theorem s_lenA (c : Call) (hop : o.op = .call c) (hcal : c.callee = .builtin .len) {t : TypeId} {ts : List TypeId} {x : Operand} {xs : List Operand} (ht : c.argTypes.toList = t :: ts) (hx : c.args.toList = x :: xs)
    {k : Nat} {e : TypeId} (hd : P.underlying t = some (.array k e)) (hc : some (AOpc.p (.lit (.int .i64 k)), ([] : List AOpd)) = some (opc, args)) (he : EnvR G H.next E env a) (h : HRel G B w0 E H w) (hs : osem C opc (args.map env.ev) H = some (v, H')) :
    Out P G B w0 E H w (execOp a.eval o) v H' := by
  simp at hc
  obtain ⟨rfl, rfl⟩ := hc
  obtain ⟨h2, rfl⟩ := osem_p hs
  simp [psem] at h2
  subst h2
  refine Out.pure h (u := .int .i64 k) ?_ rfl
  rw [exec_builtin hop hcal]
  simp [builtin, Builtin.len_, get0 ht, map_get0 hx, run_underlying hd, goInt]
theorem s_cap (c : Call) (hop : o.op = .call c) (hcal : c.callee = .builtin .cap) {t : TypeId} {ts : List TypeId} {x : Operand} {xs : List Operand} (ht : c.argTypes.toList = t :: ts) (hx : c.args.toList = x :: xs)
    {e : TypeId} (hd : P.underlying t = some (.slice e)) (hc : with1 G (.p .cap) x = some (opc, args)) (he : EnvR G H.next E env a) (h : HRel G B w0 E H w) (hs : osem C opc (args.map env.ev) H = some (v, H')) :
    Out P G B w0 E H w (execOp a.eval o) v H' := by
  obtain ⟨x', h1, rfl, rfl⟩ := with1_eq hc
  obtain ⟨h2, rfl⟩ := osem_p hs
  have hv := opd_VR he h1
  simp only [List.map_cons, List.map_nil] at h2
  cases e1 : env.ev x' <;> rw [e1] at h2 hv <;> simp only [psem, reduceCtorEq] at h2
  rename_i p sz len cap
  cases p with
  | none =>
    simp at h2
    subst h2
    refine Out.pure h (u := .int .i64 0) ?_ rfl
    rw [exec_builtin hop hcal]
    simp [builtin, Builtin.cap_, get0 ht, map_get0 hx, run_underlying hd, hv.2, goInt]
  | some p =>
    obtain ⟨_, ad, c', q, _, q2, _⟩ := hv
    cases cap with
    | none => simp at h2
    | some k =>
      simp at h2
      subst h2
      have := q2 k rfl
      subst this
      refine Out.pure h (u := .int .i64 c') ?_ rfl
      rw [exec_builtin hop hcal]
      simp [builtin, Builtin.cap_, get0 ht, map_get0 hx, run_underlying hd, q, goInt]
theorem fold_max {n : Nat} {E : Nat → Ent} : ∀ (vs : List AV) (us : List Value) (x : AV) (u : Value) (r : AV), VR G n E x u → VRs G n E vs us → foldO max2 x vs = some r → ∃ z, (us.foldlM Builtin.max2 u).run P w = .ok z w ∧ VR G n E r z
  | [], us, x, u, r, hx, hv, hr => by
    rw [show us = [] from hv]
    simp [foldO] at hr; subst hr
    exact ⟨u, by simp, hx⟩
  | y :: vs, us, x, u, r, hx, hv, hr => by
    obtain ⟨z, us', rfl, hz, hv'⟩ := hv
    cases x <;> cases y <;> simp only [foldO, max2, reduceCtorEq] at hr
    rename_i k i l j
    obtain ⟨z', h1, h2⟩ := fold_max vs us' (.int k (if j > i then j else i)) (.int k (if j > i then j else i)) r rfl hv' hr
    refine ⟨z', ?_, h2⟩
    rw [show u = _ from hx, show z = _ from hz, List.foldlM_cons, Sem.run_bind]
    simp only [Builtin.max2, Sem.run_pure, Result.andThen_ok]
    exact h1
theorem fold_min {n : Nat} {E : Nat → Ent} : ∀ (vs : List AV) (us : List Value) (x : AV) (u : Value) (r : AV), VR G n E x u → VRs G n E vs us → foldO min2 x vs = some r → ∃ z, (us.foldlM Builtin.min2 u).run P w = .ok z w ∧ VR G n E r z
  | [], us, x, u, r, hx, hv, hr => by
    rw [show us = [] from hv]
    simp [foldO] at hr; subst hr
    exact ⟨u, by simp, hx⟩
  | y :: vs, us, x, u, r, hx, hv, hr => by
    obtain ⟨z, us', rfl, hz, hv'⟩ := hv
    cases x <;> cases y <;> simp only [foldO, min2, reduceCtorEq] at hr
    rename_i k i l j
    obtain ⟨z', h1, h2⟩ := fold_min vs us' (.int k (if j < i then j else i)) (.int k (if j < i then j else i)) r rfl hv' hr
    refine ⟨z', ?_, h2⟩
    rw [show u = _ from hx, show z = _ from hz, List.foldlM_cons, Sem.run_bind]
    simp only [Builtin.min2, Sem.run_pure, Result.andThen_ok]
    exact h1
theorem s_max (c : Call) (hop : o.op = .call c) (hcal : c.callee = .builtin .max) {x : Operand} {xs : List Operand} (hx : c.args.toList = x :: xs)
    (hc : withs G (.p .max) (x :: xs) = some (opc, args)) (he : EnvR G H.next E env a) (h : HRel G B w0 E H w) (hs : osem C opc (args.map env.ev) H = some (v, H')) :
    Out P G B w0 E H w (execOp a.eval o) v H' := by
  obtain ⟨h1, rfl⟩ := withs_eq hc
  obtain ⟨h2, rfl⟩ := osem_p hs
  have hv := opds_VRs he h1
  rw [List.map_cons] at hv
  obtain ⟨a1, as, e1, q1, q2⟩ := hv.inv_cons
  rw [e1] at h2
  simp only [psem] at h2
  obtain ⟨z, r1, r2⟩ := fold_max (P := P) (w := w) as _ a1 _ v q1 q2 h2
  refine Out.pure h (u := z) ?_ r2
  rw [exec_builtin hop hcal]
  simp [builtin, Builtin.max_, Array.toList_map, hx, r1]
theorem s_min (c : Call) (hop : o.op = .call c) (hcal : c.callee = .builtin .min) {x : Operand} {xs : List Operand} (hx : c.args.toList = x :: xs)
    (hc : withs G (.p .min) (x :: xs) = some (opc, args)) (he : EnvR G H.next E env a) (h : HRel G B w0 E H w) (hs : osem C opc (args.map env.ev) H = some (v, H')) :
    Out P G B w0 E H w (execOp a.eval o) v H' := by
  obtain ⟨h1, rfl⟩ := withs_eq hc
  obtain ⟨h2, rfl⟩ := osem_p hs
  have hv := opds_VRs he h1
  rw [List.map_cons] at hv
  obtain ⟨a1, as, e1, q1, q2⟩ := hv.inv_cons
  rw [e1] at h2
  simp only [psem] at h2
  obtain ⟨z, r1, r2⟩ := fold_min (P := P) (w := w) as _ a1 _ v q1 q2 h2
  refine Out.pure h (u := z) ?_ r2
  rw [exec_builtin hop hcal]
  simp [builtin, Builtin.min_, Array.toList_map, hx, r1]
/-! ### Slices, structs -/
theorem bound_BdR {n : Nat} {x : Option Operand} {vs rest : List AV} {us : List Value} {r : Option Nat} (h : bound x.isSome vs = some (r, rest)) (hv : VRs G n E vs ((optO x).map a.eval ++ us)) : BdR (x.map a.eval) r ∧ VRs G n E rest us := by
  cases x with
  | none =>
    simp [bound] at h
    obtain ⟨rfl, rfl⟩ := h
    exact ⟨trivial, hv⟩
  | some x =>
    simp only [optO, List.map_cons, List.map_nil, List.cons_append, List.nil_append] at hv
    obtain ⟨a1, as, rfl, q1, q2⟩ := hv.inv_cons
    simp only [bound, Option.isSome_some, if_true] at h
    cases hn : natOf a1 with
    | none => simp [hn] at h
    | some m =>
      simp [hn] at h
      obtain ⟨rfl, rfl⟩ := h
      exact ⟨natOf_VR hn q1, q2⟩
theorem s_sl (t : TypeId) (x : Operand) (lo hi mx : Option Operand) (hop : o.op = .slice t x lo hi mx) {el : TypeId} (ht : P.underlying t = some (.slice el)) {m : Nat} (hm : sizeT P el = some m) (hx : ¬ (mx.isSome && hi.isNone) = true)
    (hc : withs G (.p (.sl m lo.isSome hi.isSome mx.isSome)) (x :: optO lo ++ optO hi ++ optO mx) = some (opc, args)) (he : EnvR G H.next E env a) (h : HRel G B w0 E H w) (hs : osem C opc (args.map env.ev) H = some (v, H')) :
    Out P G B w0 E H w (execOp a.eval o) v H' := by
  obtain ⟨h1, rfl⟩ := withs_eq hc
  obtain ⟨h2, rfl⟩ := osem_p hs
  have hv := opds_VRs he h1
  simp only [List.cons_append, List.map_cons, List.map_append, List.append_assoc] at hv
  obtain ⟨a1, as, e1, q1, hv⟩ := hv.inv_cons
  rw [e1] at h2
  simp only [psem, slice] at h2
  cases a1 <;> simp only [reduceCtorEq] at h2
  rename_i p sv len cap
  cases hb1 : bound lo.isSome as with
  | none => simp [hb1] at h2
  | some z1 =>
    obtain ⟨l, r1⟩ := z1
    simp only [hb1] at h2
    obtain ⟨bl, hv⟩ := bound_BdR hb1 hv
    cases hb2 : bound hi.isSome r1 with
    | none => simp [hb2] at h2
    | some z2 =>
      obtain ⟨hh, r2⟩ := z2
      simp only [hb2] at h2
      obtain ⟨bh, hv⟩ := bound_BdR hb2 hv
      cases hb3 : bound mx.isSome r2 with
      | none => simp [hb3] at h2
      | some z3 =>
        obtain ⟨mm, r3⟩ := z3
        simp only [hb3] at h2
        have hv' : VRs G H'.next E r2 ((optO mx).map a.eval ++ []) := by rw [List.append_nil]; exact hv
        obtain ⟨bm, hv''⟩ := bound_BdR hb3 hv'
        obtain rfl := hv''.inv_nil
        simp only at h2
        have hxm : (mx.map a.eval).isSome = true → (hi.map a.eval).isSome = true := by
          cases mx <;> cases hi <;> simp at hx ⊢
        split at h2
        · rename_i k
          simp only [Option.some.injEq] at h2
          obtain ⟨u', g1, g2⟩ := run_sl (P := P) (w := w) ht hm q1 bl bh bm hxm k.2.2.2 k.1 k.2.1 k.2.2.1
          refine Out.pure h (u := u') (by simp [execOp, hop, g1]) ?_
          rw [← h2]; exact g2
        · cases h2
theorem s_slS (t : TypeId) (x : Operand) (lo hi : Option Operand) (hop : o.op = .slice t x lo hi none) (ht : P.underlying t = some .string)
    (hc : withs G (.p (.slS lo.isSome hi.isSome)) (x :: optO lo ++ optO hi) = some (opc, args)) (he : EnvR G H.next E env a) (h : HRel G B w0 E H w) (hs : osem C opc (args.map env.ev) H = some (v, H')) :
    Out P G B w0 E H w (execOp a.eval o) v H' := by
  obtain ⟨h1, rfl⟩ := withs_eq hc
  obtain ⟨h2, rfl⟩ := osem_p hs
  have hv := opds_VRs he h1
  simp only [List.cons_append, List.map_cons, List.map_append, List.append_assoc] at hv
  obtain ⟨a1, as, e1, q1, hv⟩ := hv.inv_cons
  rw [e1] at h2
  simp only [psem, sliceS] at h2
  cases a1 <;> simp only [reduceCtorEq] at h2
  rename_i s
  cases hb1 : bound lo.isSome as with
  | none => simp [hb1] at h2
  | some z1 =>
    obtain ⟨l, r1⟩ := z1
    simp only [hb1] at h2
    obtain ⟨bl, hv⟩ := bound_BdR hb1 hv
    cases hb2 : bound hi.isSome r1 with
    | none => simp [hb2] at h2
    | some z2 =>
      obtain ⟨hh, r2⟩ := z2
      simp only [hb2] at h2
      have hv' : VRs G H'.next E r1 ((optO hi).map a.eval ++ []) := by rw [List.append_nil]; exact hv
      obtain ⟨bh, hv''⟩ := bound_BdR hb2 hv'
      obtain rfl := hv''.inv_nil
      simp only at h2
      split at h2
      · rename_i k
        simp only [Option.some.injEq] at h2
        subst h2
        have g1 := run_slS (P := P) (w := w) ht bl bh k.2 k.1
        refine Out.pure h (u := _) ?_ rfl
        simp only [execOp, hop, Option.map_none, show a.eval x = _ from q1, Sem.run_bind, g1, Result.andThen_ok, Sem.run_pure]
      · cases h2
theorem s_slp (t : TypeId) (x : Operand) (lo hi : Option Operand) (hop : o.op = .slice t x lo hi none) {n : Nat} {el : TypeId} (ht : P.underlying t = some (.array n el)) {m : Nat} (hm : sizeT P el = some m)
    (hc : withs G (.r (.slp n m lo.isSome hi.isSome)) (x :: optO lo ++ optO hi) = some (opc, args)) (he : EnvR G H.next E env a) (h : HRel G B w0 E H w) (hs : osem C opc (args.map env.ev) H = some (v, H')) :
    Out P G B w0 E H w (execOp a.eval o) v H' := by
  obtain ⟨h1, rfl⟩ := withs_eq hc
  obtain ⟨h2, rfl⟩ := osem_r hs
  have hv := opds_VRs he h1
  simp only [List.cons_append, List.map_cons, List.map_append, List.append_assoc] at hv
  obtain ⟨a1, as, e1, q1, hv⟩ := hv.inv_cons
  rw [e1] at h2
  cases a1 <;> simp only [rsem, reduceCtorEq] at h2
  rename_i p
  cases p with
  | none => simp at h2
  | some p =>
    obtain ⟨b, off⟩ := p
    simp only at h2
    cases hb1 : bound lo.isSome as with
    | none => simp [hb1] at h2
    | some z1 =>
      obtain ⟨l, r1⟩ := z1
      simp only [hb1] at h2
      obtain ⟨bl, hv⟩ := bound_BdR hb1 hv
      cases hb2 : bound hi.isSome r1 with
      | none => simp [hb2] at h2
      | some z2 =>
        obtain ⟨hh, r2⟩ := z2
        simp only [hb2] at h2
        have hv' : VRs G H'.next E r1 ((optO hi).map a.eval ++ []) := by rw [List.append_nil]; exact hv
        obtain ⟨bh, hv''⟩ := bound_BdR hb2 hv'
        obtain rfl := hv''.inv_nil
        simp only at h2
        cases hr : H'.row b with
        | none => simp [hr] at h2
        | some pr =>
          obtain ⟨f, cs⟩ := pr
          simp only [hr] at h2
          split at h2
          · rename_i k
            obtain ⟨k1, k2, k3, k4⟩ := k
            simp only [Option.some.injEq] at h2
            subst h2
            have kr := h.row _ _ _ hr
            rw [k1] at kr
            obtain ⟨_, kC, _⟩ := kr.own rfl
            obtain ⟨qb, q1⟩ := q1
            have hrun : (Instr.sliceBounds false n n (lo.map a.eval) (hi.map a.eval) none).run P w = .ok (l.getD 0, hh.getD n, n) w := by
              have := run_bounds (P := P) (w := w) (isS := false) (len := n) (cap := n) (mx := none) (m := none) bl bh trivial (fun q hq => by cases hq) k4 k3 (by simp)
              simpa using this
            have hln : l.getD 0 ≤ n := by omega
            refine Out.pure h (u := .slice (some (if n = l.getD 0 then ⟨(E b).g, (E b).o + off, none⟩ else (⟨(E b).g, (E b).o + off, none⟩ : Addr).add (l.getD 0 * m))) (hh.getD n - l.getD 0) (n - l.getD 0)) ?_ ?_
            · simp only [execOp, hop, Option.map_none, q1, Instr.sliceAt, Sem.run_bind, run_underlying ht, Result.andThen_ok, Instr.sureAddr, hrun, run_sizeOf hm, Sem.run_pure]
            · refine ⟨qb, _, _, rfl, by omega, fun k hk => by simp at hk; exact hk, fun hp => ?_⟩
              rw [if_neg (by omega)]
              refine ⟨?_, ?_⟩
              · simp [add_at, Nat.add_assoc]
              · have e : off + l.getD 0 * m + (n - l.getD 0) * m = off + n * m := by
                  rw [Nat.add_assoc, ← Nat.add_mul]; congr 2; omega
                omega
          · cases h2
theorem s_bld (t : TypeId) (parts : Array (Nat × Operand)) (hop : o.op = .build t parts) {zs : List AV} (hz : zeroOf P t = some (.agg zs)) {pl : List (Nat × Nat)} {place : Nat → Option (Nat × Nat)}
    (hp : mapO (fun (p : Nat × Operand) => place p.1) parts.toList = some pl)
    (hrun : ∀ zv : Value, (zeroValue t).run P w = .ok zv w → ∀ (ps : Array (Nat × Value)) cells, Instr.fill place zv.cells ps.toList = some cells → (Instr.build t ps).run P w = .ok (.agg cells) w)
    (hc : withs G (.p (.bld zs pl)) (parts.toList.map (·.2)) = some (opc, args)) (he : EnvR G H.next E env a) (h : HRel G B w0 E H w) (hs : osem C opc (args.map env.ev) H = some (v, H')) :
    Out P G B w0 E H w (execOp a.eval o) v H' := by
  obtain ⟨h1, rfl⟩ := withs_eq hc
  obtain ⟨h2, rfl⟩ := osem_p hs
  have hv := opds_VRs he h1
  obtain ⟨i, z, i1, i2, i3⟩ := zero_info hz
  have hzv : (zeroValue t).run P w = .ok z w := by simp [zeroValue, typeInfo, i1, i2]
  obtain ⟨us, z1, z2⟩ : VR G H'.next E (.agg zs) z := ofValue_VR i3
  simp only [psem] at h2
  cases hf : Am.fill zs pl (args.map env.ev) with
  | none => simp [hf] at h2
  | some cs =>
    simp [hf] at h2
    subst h2
    have hm : mapO (fun (p : Nat × Value) => place p.1) (parts.toList.map fun p => (p.1, a.eval p.2)) = some pl := by
      clear hrun hc h1 hv hf hs
      revert pl
      generalize parts.toList = l
      induction l with
      | nil => intro pl hp; simpa [mapO] using hp
      | cons p l ih =>
        intro pl hp
        unfold mapO at hp ⊢
        cases e1 : place p.1 with
        | none => simp [e1] at hp
        | some q =>
          cases e2 : mapO (fun (p : Nat × Operand) => place p.1) l with
          | none => simp [e1, e2] at hp
          | some pl' =>
            simp [e1, e2] at hp
            subst hp
            simp [e1, ih e2]
    have hv2 : VRs G H'.next E (args.map env.ev) ((parts.toList.map fun p => (p.1, a.eval p.2)).map (·.2)) := by simpa [List.map_map, Function.comp_def] using hv
    obtain ⟨us', f1, f2⟩ := fill_VRs (place := place) _ pl _ zs cs us hf z2 hm hv2
    have := hrun z hzv (parts.map fun p => (p.1, a.eval p.2)) us' (by rw [z1]; simpa [Value.cells] using f1)
    refine Out.pure h (u := .agg us') ?_ ⟨us', rfl, f2⟩
    simp only [execOp, hop, Sem.run_bind, this, Result.andThen_ok, Sem.run_pure]
end
end Go.Am

/- Operations that read the heap, and those that write: each gives in the model what it gives in the small machine. -/
set_option linter.unusedVariables false
set_option linter.unusedSimpArgs false
namespace Go.Am
open Go.RowKit
variable {G : Nat → Nat} {P : Program}
section
variable {B : Prot} {w0 : Base} {w : World} {E : Nat → Ent} {H : AHeap}
variable {C : CallF} {o : Oper} {opc : AOpc} {args : List AOpd} {env : Env} {a : Act} {v : AV} {H' : AHeap}
/-! ### Loads -/
theorem HRel.loadCells (h : HRel G B w0 E H w) {b off n : Nat} {cs : List AV} (hl : H.ld b off n = some cs) :
    b < H.next ∧ ∃ us, VRs G H.next E cs us ∧ (Go.loadCells ⟨(E b).g, (E b).o + off, none⟩ n).run P w = .ok us.toArray w ∧ us.length = n ∧ (∀ (j : Nat) u, us[j]? = some u → w.cell? ⟨(E b).g, (E b).o + off + j, none⟩ = some u) := by
  obtain ⟨h1, h2, us, h3, h4⟩ := h.ld hl
  have hul := h3.length
  refine ⟨h2, us, h3, ?_, by omega, h4⟩
  have := run_loadCells_list (P := P) w ⟨(E b).g, (E b).o + off, none⟩ us (fun j u hj => by rw [add_at]; exact h4 j u hj)
  rwa [hul, h1] at this
theorem s_ld (t : TypeId) (x : Operand) (hop : o.op = .load t x) {m : Nat} {g : Bool} (hm : sizeT P t = some m) (hg : aggT P t = some g) (hgm : g = true ∨ m = 1)
    (hc : with1 G (.r (.ld m g)) x = some (opc, args)) (he : EnvR G H.next E env a) (h : HRel G B w0 E H w) (hs : osem C opc (args.map env.ev) H = some (v, H')) :
    Out P G B w0 E H w (execOp a.eval o) v H' := by
  obtain ⟨x', h1, rfl, rfl⟩ := with1_eq hc
  obtain ⟨h2, rfl⟩ := osem_r hs
  have hv := opd_VR he h1
  simp only [List.map_cons, List.map_nil] at h2
  cases e : env.ev x' <;> rw [e] at h2 hv <;> simp only [rsem, reduceCtorEq] at h2
  rename_i p
  cases p with
  | none => simp at h2
  | some p =>
    obtain ⟨b, off⟩ := p
    simp only at h2
    cases hl : H'.ld b off m with
    | none => simp [hl] at h2
    | some cs =>
      simp only [hl] at h2
      obtain ⟨q1, us, q2, q3, q4, q5⟩ := h.loadCells (P := P) hl
      cases g with
      | true =>
        simp at h2
        subst h2
        refine Out.pure h (u := .agg us.toArray) ?_ ⟨us.toArray, rfl, by simpa using q2⟩
        simp [execOp, hop, hv.2, Instr.loadAt, Instr.sureAddr, loadVar, run_isAgg hg, run_sizeOf hm, q3]
      | false =>
        simp at h2
        obtain ⟨u, q6, q7⟩ := q2.get _ _ h2
        have q8 := q5 0 u q6
        simp only [Nat.add_zero] at q8
        refine Out.pure h (u := u) ?_ q7
        simp [execOp, hop, hv.2, Instr.loadAt, Instr.sureAddr, loadVar, run_isAgg hg, q8]
/-- The cells of a slice or a string, as the model reads them. -/
theorem HRel.firstCells (h : HRel G B w0 E H w) {sz m : Nat} {x : AV} {u : Value} (hv : VR G H.next E x u) (hl : Am.lenOf x = some m) {cs : List AV} (hc : H.cellsOf sz x = some cs) :
    (Builtin.lenOf u).run P w = .ok m w ∧ ∃ us, VRs G H.next E cs us ∧ us.length = m * sz ∧ (∀ w' : World, (∀ c u', w.cell? c = some u' → w'.cell? c = some u') → (Builtin.firstCells sz m u).run P w' = .ok us.toArray w') := by
  cases x <;> simp only [Am.lenOf, reduceCtorEq, Option.some.injEq] at hl
  · rename_i s
    subst hl
    simp only [AHeap.cellsOf] at hc
    split at hc
    case isFalse => cases hc
    rename_i hsz
    subst hsz
    simp only [Option.some.injEq] at hc
    subst hc
    rw [show u = _ from hv]
    refine ⟨by simp [Builtin.lenOf, bs_size], s.map fun c => .int .u8 c.toNat, ?_, by simp, ?_⟩
    · refine VRs.of_get (by simp) (fun i v hi => ?_)
      rw [List.getElem?_map] at hi ⊢
      cases hsi : s[i]? with
      | none => simp [hsi] at hi
      | some c => simp [hsi] at hi; subst hi; exact ⟨_, rfl, rfl⟩
    · intro w' _
      have : ((⟨⟨s⟩⟩ : ByteArray).extract 0 s.length) = ⟨⟨s⟩⟩ := by rw [bs_extract]; simp
      simp [Builtin.firstCells, this]
  · rename_i p sv len cap
    subst hl
    cases p with
    | none =>
      obtain ⟨rfl, rfl⟩ := hv
      simp [AHeap.cellsOf] at hc
      subst hc
      refine ⟨by simp [Builtin.lenOf], [], rfl, by simp, fun w' _ => by simp [Builtin.firstCells]⟩
    | some p =>
      obtain ⟨b, off⟩ := p
      obtain ⟨q1, ad, c, rfl, q3, q4, q5⟩ := hv
      simp only [AHeap.cellsOf] at hc
      refine ⟨by simp [Builtin.lenOf], ?_⟩
      split at hc
      · rename_i h0
        simp at hc
        subst hc; subst h0
        refine ⟨[], rfl, by simp, fun w' _ => by simp [Builtin.firstCells, Go.loadCells, loadCellsFrom]⟩
      · rename_i h0
        obtain ⟨q6, _⟩ := q5 (by omega)
        obtain ⟨_, us, r2, _, r4, r5⟩ := h.loadCells (P := P) hc
        refine ⟨us, r2, r4, fun w' hw' => ?_⟩
        rw [q6]
        have := run_loadCells_list (P := P) w' ⟨(E b).g, (E b).o + off, none⟩ us (fun j u hj => by rw [add_at]; exact hw' _ _ (r5 j u hj))
        rw [r4] at this
        simpa [Builtin.firstCells] using this
theorem bytesOf_VRs {n : Nat} {E : Nat → Ent} : ∀ {cs : List AV} {l : List UInt8} {us : List Value}, bytesOf cs = some l → VRs G n E cs us → ∃ xs : List Int, us = xs.map (Value.int .u8) ∧ l = xs.map fun n => UInt8.ofNat n.toNat
  | [], l, us, h, hv => by simp [bytesOf] at h; subst h; exact ⟨[], by rw [show us = [] from hv]; rfl, rfl⟩
  | c :: cs, l, us, h, hv => by
    obtain ⟨u, us', rfl, h1, h2⟩ := hv
    cases c <;> (try (simp [bytesOf] at h; done))
    rename_i k i
    cases k <;> (try (simp [bytesOf] at h; done))
    unfold bytesOf at h
    cases hb : bytesOf cs with
    | none => simp [hb] at h
    | some l' =>
      simp [hb] at h
      subst h
      obtain ⟨xs, rfl, rfl⟩ := bytesOf_VRs hb h2
      exact ⟨i :: xs, by rw [show u = _ from h1]; rfl, rfl⟩
theorem s_b2s (s d e : TypeId) (x : Operand) (hop : o.op = .convert s d x) (q1 : P.underlying s = some (.slice e)) (q2 : P.underlying d = some .string) (q3 : P.underlying e = some (.int .u8))
    (hc : with1 G (.r .b2s) x = some (opc, args)) (he : EnvR G H.next E env a) (h : HRel G B w0 E H w) (hs : osem C opc (args.map env.ev) H = some (v, H')) :
    Out P G B w0 E H w (execOp a.eval o) v H' := by
  obtain ⟨x', h1, rfl, rfl⟩ := with1_eq hc
  obtain ⟨h2, rfl⟩ := osem_r hs
  have hv := opd_VR he h1
  simp only [List.map_cons, List.map_nil] at h2
  cases e1 : env.ev x' <;> rw [e1] at h2 hv <;> simp only [rsem, reduceCtorEq] at h2
  rename_i p sv len cap
  cases hcc : H'.cellsOf 1 (.slc p sv len cap) with
  | none => simp [hcc] at h2
  | some cs =>
    simp only [hcc] at h2
    cases hb : bytesOf cs with
    | none => simp [hb] at h2
    | some l =>
      simp [hb] at h2
      subst h2
      cases p with
      | none =>
        obtain ⟨rfl, hu⟩ := hv
        simp [AHeap.cellsOf] at hcc
        subst hcc
        simp [bytesOf] at hb
        subst hb
        refine Out.pure h (u := .string ByteArray.empty) ?_ rfl
        simp [execOp, hop, hu, run_convert_bytes_nil w s e q1 q3 0 0 d q2]
      | some p =>
        obtain ⟨b, off⟩ := p
        obtain ⟨r1, ad, c, hu, r3, r4, r5⟩ := hv
        simp only [AHeap.cellsOf] at hcc
        split at hcc
        · rename_i h0
          simp at hcc
          subst hcc; subst h0
          simp [bytesOf] at hb
          subst hb
          refine Out.pure h (u := .string ByteArray.empty) ?_ rfl
          simp only [execOp, hop, hu]
          simp [convert, run_underlying q1, run_underlying q2, run_underlying q3, Conv.bytesToString, Go.loadCells, loadCellsFrom]
        · rename_i h0
          obtain ⟨q6, _⟩ := r5 (by omega)
          obtain ⟨_, us, t2, _, t4, t5⟩ := h.loadCells (P := P) hcc
          obtain ⟨xs, rfl, rfl⟩ := bytesOf_VRs hb t2
          have hlen : xs.length = len := by simpa using t4
          have := run_convert_bytes_arg (P := P) w s e q1 q3 (E b).g ((E b).o + off) len c xs hlen (fun i hi => t5 i _ (by simp [List.getElem?_eq_getElem (show i < xs.length by omega), List.getD])) d q2
          refine Out.pure h (u := .string (strOfNums xs)) ?_ rfl
          simp [execOp, hop, hu, q6, this]
/-! ### New rows -/
/-- A value in a new row, for whoever makes one. -/
theorem Out.row (h : HRel G B w0 E H w) {s : Sem Next} {v : AV} {u : Value} {cells : List AV} {us rest : List Value} (hv : VRs G H.next E cells us) {Cn : Nat} (hC : us.length ≤ Cn) (hC' : Cn ≤ us.length + rest.length) {e : TypeId} {fr : Nat × Nat} (hfr : Cn ≤ fr.1 ∨ fr.2 = 0)
    (hr : s.run P w = .ok (.value u) (w.alloc (.cells (us ++ rest).toArray e fr))) (hu : VR G (H.next + 1) (upd E H.next ⟨w.heap.size, 0, Cn⟩) v u) : Out P G B w0 E H w s v (H.new cells) :=
  ⟨u, _, upd E H.next ⟨w.heap.size, 0, Cn⟩, .inl hr, hu, by show H.next ≤ H.next + 1; omega, ext_upd _ _ _, h.new cells us rest hv Cn hC hC' e fr hfr⟩
theorem box_core (h : HRel G B w0 E H w) {t : TypeId} {x : AV} {u : Value} (hv : VR G H.next E x u) {s : Sem Next} (hrun : s.run P w = ((Instr.box t u).run P w).andThen fun v w' => .ok (.value v) w') (hs : wsem C .box [x] H = some (v, H')) :
    Out P G B w0 E H w s v H' := by
  simp only [wsem] at hs
  split at hs
  · rename_i hc
    simp only [Option.some.injEq, Prod.mk.injEq] at hs
    obtain ⟨rfl, rfl⟩ := hs
    have hvc := VR.cells hv hc
    refine Out.row h (rest := []) (Cn := u.cells.toList.length) hvc (Nat.le_refl _) (by simp) (.inr rfl) (e := t) (fr := (0, 0)) (u := .pointer (some ⟨w.heap.size, 0, none⟩)) ?_ ?_
    · rw [hrun]
      simp [Instr.box, newVar, newRow]
    · refine ⟨by omega, ?_⟩
      rw [upd_same]
  · cases hs
theorem s_box (t : TypeId) (x : Operand) (hop : o.op = .box t x) (hc : with1 G (.w .box) x = some (opc, args)) (he : EnvR G H.next E env a) (h : HRel G B w0 E H w) (hs : osem C opc (args.map env.ev) H = some (v, H')) :
    Out P G B w0 E H w (execOp a.eval o) v H' := by
  obtain ⟨x', h1, rfl, rfl⟩ := with1_eq hc
  simp only [List.map_cons, List.map_nil] at hs
  exact box_core (C := C) h (opd_VR he h1) (t := t) (by simp [execOp, hop]) hs
theorem s_alloc (t : TypeId) (hop : o.op = .alloc t) {z : AV} (hz : zeroOf P t = some z) (hc : some (AOpc.w .box, [AOpd.c z]) = some (opc, args)) (h : HRel G B w0 E H w) (hs : osem C opc (args.map env.ev) H = some (v, H')) :
    Out P G B w0 E H w (execOp a.eval o) v H' := by
  simp at hc
  obtain ⟨rfl, rfl⟩ := hc
  obtain ⟨i, zv, i1, i2, i3⟩ := zero_info hz
  simp only [List.map_cons, List.map_nil] at hs
  exact box_core (C := C) h (ofValue_VR (n := H.next) (E := E) i3) (t := t) (by simp [execOp, hop, Instr.alloc, zeroValue, typeInfo, i1, i2, Instr.box, newVar, newRow]) hs
theorem s_st (t : TypeId) (x y : Operand) (hop : o.op = .store t x y) {m : Nat} (hm : sizeT P t = some m) (hc : with2 G (.w (.st m)) x y = some (opc, args)) (he : EnvR G H.next E env a) (h : HRel G B w0 E H w) (hs : osem C opc (args.map env.ev) H = some (v, H')) :
    Out P G B w0 E H w (execOp a.eval o) v H' := by
  obtain ⟨x', y', h1, h2, rfl, rfl⟩ := with2_eq hc
  have v1 := opd_VR he h1
  have v2 := opd_VR he h2
  simp only [List.map_cons, List.map_nil, osem] at hs
  cases e1 : env.ev x' <;> rw [e1] at hs v1 <;> simp only [wsem, reduceCtorEq] at hs
  rename_i p
  cases p with
  | none => simp at hs
  | some p =>
    obtain ⟨b, off⟩ := p
    simp only at hs
    split at hs
    · rename_i hl
      cases hst : H.st b off (env.ev y').cells with
      | none => simp [hst] at hs
      | some H1 =>
        simp [hst] at hs
        obtain ⟨rfl, rfl⟩ := hs
        obtain ⟨f, cs, q1, q2, q3, q4, q5⟩ := st_row hst
        have hvc := VR.cells v2 q4
        obtain ⟨r1, r2, r3, r4, r5, r6⟩ := h.st hst hvc
        have hul := hvc.length
        have hst2 := run_storeCells_cells (P := P) (E b).g ((E b).o + off) (a.eval y).cells.toList 0 w (by simpa using r4) (by simpa using r5) r6
        refine ⟨Go.undef, _, E, .inr ⟨?_, rfl⟩, trivial, by rw [r2]; exact Nat.le_refl _, Ext.refl _ _, r3⟩
        have hsz : (a.eval y).cells.size = m := by rw [← Array.length_toList]; omega
        simp only [Nat.add_zero] at hst2
        simp [execOp, hop, v1.2, Instr.storeAt, Instr.sureAddr, storeVar, run_sizeOf hm, hsz, hst2]
    · cases hs
/-! ### Rows of many -/
theorem ofFlat_cells {n : Nat} {E : Nat → Ent} {zv : Value} {z : AV} (h : ofFlat zv = some z) : VRs G n E z.cells zv.cells.toList := by
  have hv : VR G n E z zv := ofFlat_VR h
  have hc : z.cell = true := by
    unfold ofFlat at h
    split at h <;> first | (simp at h; subst h; rfl) | cases h
  have e : z.cells = [z] := by cases z <;> first | rfl | simp [AV.cell] at hc
  rw [e, (hv.oneCell hc).2]
  exact VRs.single hv
theorem ofValue_cells {n : Nat} {E : Nat → Ent} {zv : Value} {z : AV} (h : ofValue zv = some z) : VRs G n E z.cells zv.cells.toList := by
  cases zv with
  | agg cs =>
    simp only [ofValue] at h
    cases h2 : mapO ofFlat cs.toList with
    | none => simp [h2] at h
    | some l => simp [h2] at h; subst h; exact mapO_VRs h2
  | _ => exact ofFlat_cells h
theorem flat_get {α : Type} (l : List α) (hl : 0 < l.length) : ∀ (c i : Nat), (List.replicate c l).flatten[i]? = if i < c * l.length then l[i % l.length]? else none
  | 0, i => by simp
  | c + 1, i => by
    rw [List.replicate_succ, List.flatten_cons]
    by_cases h : i < l.length
    · rw [List.getElem?_append_left h, if_pos (by rw [Nat.add_mul]; omega), Nat.mod_eq_of_lt h]
    · rw [List.getElem?_append_right (by omega), flat_get l hl c]
      have e : (i - l.length) % l.length = i % l.length := by
        conv => rhs; rw [show i = (i - l.length) + l.length by omega, Nat.add_mod_right]
      rw [e]
      by_cases h2 : i < (c + 1) * l.length
      · rw [if_pos h2, if_pos (by rw [Nat.add_mul] at h2; omega)]
      · rw [if_neg h2, if_neg (by rw [Nat.add_mul] at h2; omega)]
/-- The model's row of zeros. -/
theorem zeros_VRs {n : Nat} {E : Nat → Ent} {zs : List AV} {us : Array Value} (hv : VRs G n E zs us.toList) (hz : 0 < zs.length) (c : Nat) : VRs G n E (List.replicate c zs).flatten (((Array.range (c * zs.length)).map fun i => us[i % us.size]!).toList) := by
  have hul : us.size = zs.length := by have := hv.length; simpa using this
  refine VRs.of_get (by simp) (fun i v hi => ?_)
  rw [flat_get zs hz] at hi
  split at hi
  · rename_i hlt
    obtain ⟨u, h1, h2⟩ := hv.get _ _ hi
    refine ⟨u, ?_, h2⟩
    rw [Array.getElem?_toList] at h1 ⊢
    rw [Array.getElem?_map, Array.getElem?_range, if_pos hlt, Option.map_some, hul]
    rw [getElem!_def, h1]
  · cases hi
theorem s_mks (t : TypeId) (x y : Operand) (hop : o.op = .makeSlice t x y) {el : TypeId} (ht : P.underlying t = some (.slice el)) {by_ m : Nat} {z : AV} (hb : bytesT P el = some by_) (hz : zeroOf P el = some z) (hm : sizeT P el = some m) (hmz : m = z.cells.length)
    (hc : with2 G (.w (.mks by_ z.cells)) x y = some (opc, args)) (he : EnvR G H.next E env a) (h : HRel G B w0 E H w) (hs : osem C opc (args.map env.ev) H = some (v, H')) :
    Out P G B w0 E H w (execOp a.eval o) v H' := by
  obtain ⟨x', y', h1, h2, rfl, rfl⟩ := with2_eq hc
  have v1 := opd_VR he h1
  have v2 := opd_VR he h2
  simp only [List.map_cons, List.map_nil, osem] at hs
  cases e1 : env.ev x' <;> rw [e1] at hs v1 <;> simp only [wsem, reduceCtorEq] at hs
  cases e2 : env.ev y' <;> rw [e2] at hs v2 <;> simp only [reduceCtorEq] at hs
  rename_i k1 l k2 c
  split at hs
  · rename_i q
    simp only [Option.some.injEq, Prod.mk.injEq] at hs
    obtain ⟨rfl, rfl⟩ := hs
    obtain ⟨q1, q2, q3, q4, q5, q6⟩ := q
    obtain ⟨i, zv, i1, i2, i3⟩ := zero_info hz
    obtain ⟨i', j1, j2⟩ := bytes_info hb
    rw [i1] at j1
    simp at j1
    subst j1
    have hzv : VR G H.next E z zv := ofValue_VR i3
    have hzc := VR.cells hzv q5
    have hl : IntKind.i64.wrap l = l := by unfold IntKind.wrap; simp [IntKind.bits, IntKind.signed]; omega
    have hcw : IntKind.i64.wrap c = c := by unfold IntKind.wrap; simp [IntKind.bits, IntKind.signed]; omega
    have hzl : zv.cells.size = z.cells.length := by have := hzc.length; simpa using this
    have hrow := zeros_VRs hzc (by omega) c.toNat
    have hb2 : ¬ ((i.bytes : Int) * c > 2 ^ 48) := by rw [Int.mul_comm, j2]; omega
    have hb3 : ¬ ((i.bytes : Int) * l > 2 ^ 48) := by
      have : (i.bytes : Int) * l ≤ (i.bytes : Int) * c := Int.mul_le_mul_of_nonneg_left q2 (by omega)
      omega
    have hrowEq : ((Array.range (c.toNat * m)).map (fun j => (if c.toNat * m = 0 then (#[] : Array Value) else zv.cells)[j % (if c.toNat * m = 0 then (#[] : Array Value) else zv.cells).size]!)) = (Array.range (c.toNat * z.cells.length)).map (fun j => zv.cells[j % zv.cells.size]!) := by
      rw [hmz]
      by_cases h0 : c.toNat * z.cells.length = 0
      · rw [h0]; simp
      · rw [if_neg h0]
    refine Out.row h (rest := []) (Cn := c.toNat * z.cells.length) hrow (by simp) (by simp) (.inr rfl) (e := el) (fr := (0, 0)) (u := .slice (some ⟨w.heap.size, 0, none⟩) l.toNat c.toNat) ?_ ?_
    · have hrun : (Instr.makeSlice t (.int k1 l) (.int k2 c)).run P w = .ok (.slice (some ⟨w.heap.size, 0, none⟩) l.toNat c.toNat) (w.alloc (.cells ((Array.range (c.toNat * z.cells.length)).map (fun j => zv.cells[j % zv.cells.size]!)) el)) := by
        have hsz : (sizeOf el).run P w = .ok m w := run_sizeOf hm
        unfold Instr.makeSlice
        simp only [Sem.run_bind, run_underlying ht, Result.andThen_ok, asInt, asIntOf, Sem.run_pure, typeInfo, run_program, i1, hl, hcw]
        rw [if_neg (by simp only [Bool.or_eq_true, decide_eq_true_eq, not_or]; exact ⟨⟨⟨by omega, hb2⟩, by omega⟩, by omega⟩)]
        simp only [Sem.run_bind, run_askRoom, Result.andThen_ok, hsz]
        rw [← hrowEq]
        by_cases h0 : c.toNat * m = 0
        · simp [h0, newRow]
        · simp [h0, newRow, zeroValue, typeInfo, i1, i2]
      simp only [execOp, hop, show a.eval x = _ from v1, show a.eval y = _ from v2, Sem.run_bind, hrun, Result.andThen_ok, Sem.run_pure]
      rw [List.append_nil, Array.toArray_toList]
    · refine ⟨by omega, _, _, rfl, by omega, fun k hk => by simp at hk; exact hk, fun hp => ?_⟩
      rw [upd_same]
      exact ⟨rfl, by simp⟩
  · cases hs
theorem s_bsl (t : TypeId) (len : Nat) (parts : Array (Nat × Operand)) (hop : o.op = .buildSlice t len parts) {el : TypeId} (ht : P.underlying t = some (.slice el)) {m : Nat} {z : AV} (hm : sizeT P el = some m) (hz : zeroOf P el = some z) (hmz : m = z.cells.length) (hm0 : m ≠ 0) (hlen : len * m ≤ 2 ^ 24)
    (hc : withs G (.w (.bsl m len (List.replicate len z.cells).flatten (parts.toList.map fun p => (p.1 * m, m)))) (parts.toList.map (·.2)) = some (opc, args)) (he : EnvR G H.next E env a) (h : HRel G B w0 E H w) (hs : osem C opc (args.map env.ev) H = some (v, H')) :
    Out P G B w0 E H w (execOp a.eval o) v H' := by
  obtain ⟨h1, rfl⟩ := withs_eq hc
  have hv := opds_VRs he h1
  simp only [osem, wsem] at hs
  cases hf : Am.fill (List.replicate len z.cells).flatten (parts.toList.map fun p => (p.1 * m, m)) (args.map env.ev) with
  | none => simp [hf] at hs
  | some cs =>
    simp only [hf] at hs
    split at hs
    · rename_i q
      simp only [Option.some.injEq, Prod.mk.injEq] at hs
      obtain ⟨rfl, rfl⟩ := hs
      obtain ⟨i, zv, i1, i2, i3⟩ := zero_info hz
      have hzv : VR G H.next E z zv := ofValue_VR i3
      -- the template in the model
      obtain ⟨us0, hus0, hz0⟩ : ∃ us0 : Array Value, (∀ w' : World, ((if len * m = 0 then pure #[] else do pure (← zeroValue el).cells : Sem (Array Value))).run P w' = .ok us0 w') ∧
          VRs G H.next E (List.replicate len z.cells).flatten (((Array.range (len * m)).map fun i => us0[i % us0.size]!).toList) := by
        by_cases h0 : len * m = 0
        · refine ⟨#[], fun w' => by simp [h0], ?_⟩
          have : len = 0 := by rcases Nat.mul_eq_zero.1 h0 with h | h; exact h; exact absurd h hm0
          subst this
          simp [VRs]
        · refine ⟨zv.cells, fun w' => by simp [h0, zeroValue, typeInfo, i1, i2], ?_⟩
          have hzc : VRs G H.next E z.cells zv.cells.toList := ofValue_cells i3
          rw [hmz]
          exact zeros_VRs hzc (by omega) len
      have hmO : mapO (fun (p : Nat × Value) => some (p.1 * m, m)) (parts.toList.map fun p => (p.1, a.eval p.2)) = some (parts.toList.map fun p => (p.1 * m, m)) := by
        generalize parts.toList = l
        induction l with
        | nil => rfl
        | cons p l ih => unfold mapO; simp [ih]
      have hv2 : VRs G H.next E (args.map env.ev) ((parts.toList.map fun p => (p.1, a.eval p.2)).map (·.2)) := by simpa [List.map_map, Function.comp_def] using hv
      obtain ⟨us', f1, f2⟩ := fill_VRs (place := fun i => some (i * m, m)) _ _ _ _ _ _ hf hz0 hmO hv2
      have hul := f2.length
      refine Out.row h (rest := []) (Cn := us'.toList.length) f2 (Nat.le_refl _) (by simp) (.inr rfl) (e := el) (fr := (0, 0)) (u := .slice (some ⟨w.heap.size, 0, none⟩) len len) ?_ ?_
      · have hps : (parts.map fun p => (p.1, a.eval p.2)).toList = parts.toList.map fun p => (p.1, a.eval p.2) := by simp
        have hrun : (Instr.buildSlice t len (parts.map fun p => (p.1, a.eval p.2))).run P w = .ok (.slice (some ⟨w.heap.size, 0, none⟩) len len) (w.alloc (.cells us' el)) := by
          have hsz : (sizeOf el).run P w = .ok m w := run_sizeOf hm
          unfold Instr.buildSlice
          simp only [Sem.run_bind, run_underlying ht, Result.andThen_ok, hsz]
          rw [if_neg (by omega)]
          have hu0 := hus0 w
          by_cases h0 : len * m = 0
          · simp only [h0, if_true, Sem.run_pure, Result.ok.injEq] at hu0
            obtain ⟨rfl, _⟩ := hu0
            rw [h0] at f1
            simp only [h0, if_true, Sem.run_bind, Sem.run_pure, Result.andThen_ok, hps, f1]
            simp [newRow]
          · simp only [h0, if_false, Sem.run_bind] at hu0 ⊢
            simp only [zeroValue, typeInfo, i1, i2, Sem.run_bind, run_program, Result.andThen_ok, Sem.run_pure, Result.ok.injEq] at hu0 ⊢
            obtain ⟨rfl, _⟩ := hu0
            simp only [hps, f1]
            simp [newRow]
        simp only [execOp, hop, Sem.run_bind, hrun, Result.andThen_ok, Sem.run_pure]
        rw [List.append_nil, Array.toArray_toList]
      · refine ⟨by omega, _, _, rfl, Nat.le_refl _, fun k hk => by simpa using hk, fun hp => ?_⟩
        rw [upd_same]
        exact ⟨rfl, by show 0 + len * m ≤ us'.toList.length; omega⟩
    · cases hs
end
end Go.Am

/- Operations that write: append, copy, a string turned into bytes. -/
set_option linter.unusedVariables false
set_option linter.unusedSimpArgs false
namespace Go.Am
open Go.RowKit
variable {G : Nat → Nat} {P : Program}
section
variable {B : Prot} {w0 : Base} {w : World} {E : Nat → Ent} {H : AHeap}
variable {C : CallF} {o : Oper} {opc : AOpc} {args : List AOpd} {env : Env} {a : Act} {v : AV} {H' : AHeap}
theorem run_app_grow {ts : Array TypeId} {ty : TypeId} {as : Array Value} {t el u' : TypeId} {du : TypeDesc} {i : TypeInfo} {z : Value} {base : Option Addr} {sLen sCap m : Nat} {x : Value} {olds news : Array Value}
    (h0 : ts[0]? = some t) (h1 : ts[1]? = some u') (hu : P.underlying u' = some du) (hni : du = .string ∨ ∃ e, du = .slice e) (ht : P.underlying t = some (.slice el)) (hi : P.info? el = some i) (hz : i.zero = some z)
    (a0 : as[0]? = some (.slice base sLen sCap)) (a1 : as[1]? = some x) (hn : ∀ w, (Builtin.lenOf x).run P w = .ok m w)
    (holds : (Builtin.firstCells i.size sLen (.slice base sLen sCap)).run P w.drew = .ok olds w.drew) (hnews : (Builtin.firstCells i.size m x).run P w.drew = .ok news w.drew)
    (hg : sCap < sLen + m) (h63 : sLen + m ≤ 2 ^ 60) (hfit : Builtin.nextslicecap (sLen + m) sCap * i.bytes ≤ 281474976710656) :
    (Builtin.append_ ts ty as).run P w = .ok (.slice (some ⟨w.heap.size, 0, none⟩) (sLen + m) (grownCap w (sLen + m) sCap el))
      (w.drew.alloc (.cells (olds ++ news ++ Builtin.zeroCells z.cells (grownCap w (sLen + m) sCap el - (sLen + m))) el)) := by
  have hn' : ¬ (sLen + m ≤ sCap) := by omega
  have h63' : ¬ (9223372036854775807 < ((sLen : Int) + (m : Int))) := by omega
  have h48' : ¬ (281474976710656 < Builtin.nextslicecap (sLen + m) sCap * i.bytes) := by omega
  rcases hni with rfl | ⟨e, rfl⟩
  all_goals simp [Builtin.append_, h0, h1, a0, a1, run_underlying ht, run_underlying hu, sizeOf, typeInfo, zeroValue, hi, hz, hn, hn', h63', h48', Question.forced, holds, hnews, newRow, grownCap]
theorem run_app_room {ts : Array TypeId} {ty : TypeId} {as : Array Value} {t el u' : TypeId} {du : TypeDesc} {i : TypeInfo} {base : Option Addr} {sLen sCap m : Nat} {x : Value} {news : Array Value} {w' : World}
    (h0 : ts[0]? = some t) (h1 : ts[1]? = some u') (hu : P.underlying u' = some du) (hni : du = .string ∨ ∃ e, du = .slice e) (ht : P.underlying t = some (.slice el)) (hi : P.info? el = some i)
    (a0 : as[0]? = some (.slice base sLen sCap)) (a1 : as[1]? = some x) (hn : ∀ w, (Builtin.lenOf x).run P w = .ok m w)
    (hnews : (Builtin.firstCells i.size m x).run P w = .ok news w) (hg : sLen + m ≤ sCap)
    (hst : (match base with | some a => storeCells (a.add (sLen * i.size)) news.toList | none => pure () : Sem Unit).run P w = .ok () w') :
    (Builtin.append_ ts ty as).run P w = .ok (.slice base (sLen + m) sCap) w' := by
  cases base with
  | none =>
    simp at hst
    subst hst
    rcases hni with rfl | ⟨e, rfl⟩
    all_goals simp [Builtin.append_, h0, h1, a0, a1, run_underlying ht, run_underlying hu, sizeOf, typeInfo, hi, hn, hg, hnews]
  | some ad =>
    simp only at hst
    rcases hni with rfl | ⟨e, rfl⟩
    all_goals simp [Builtin.append_, h0, h1, a0, a1, run_underlying ht, run_underlying hu, sizeOf, typeInfo, hi, hn, hg, hnews, hst]
theorem grownCap_ge' (w : World) (need old : Nat) (e : TypeId) : need ≤ grownCap w need old e := grownCap_ge w need old e
theorem zeroCells_len (z : Array Value) (k : Nat) : (Builtin.zeroCells z k).size = k * z.size := by simp [Builtin.zeroCells]
/-- What an append leaves: where its row lies, too. -/
def OutA (P : Program) (G : Nat → Nat) (B : Prot) (w0 : Base) (E : Nat → Ent) (H : AHeap) (w : World) (s : Sem Next) (v : AV) (H' : AHeap) (el : TypeId) (p : Option (Nat × Nat)) : Prop :=
  ∃ u w' E', (s.run P w = .ok (.value u) w' ∨ (s.run P w = .ok .skip w' ∧ u = Go.undef)) ∧ VR G H'.next E' v u ∧ H.next ≤ H'.next ∧ Ext H.next E E' ∧ HRel G B w0 E' H' w' ∧
    (H.next < H'.next → ((E' H.next).o = 0 ∧ ∃ cs fz, w'.heap[(E' H.next).g]? = some (.cells cs el fz)) ∨ (∃ b off, p = some (b, off) ∧ b < H.next ∧ (E' H.next).g = (E b).g ∧ (E' H.next).o = (E b).o + off ∧ TK w w'))
theorem OutA.out {s : Sem Next} {el : TypeId} {p : Option (Nat × Nat)} (h : OutA P G B w0 E H w s v H' el p) : Out P G B w0 E H w s v H' := by
  obtain ⟨u, w', E', h1, h2, h3, h4, h5, _⟩ := h
  exact ⟨u, w', E', h1, h2, h3, h4, h5⟩
theorem OutA.pure (h : HRel G B w0 E H w) {s : Sem Next} {u : Value} {el : TypeId} {p : Option (Nat × Nat)} (hr : s.run P w = .ok (.value u) w) (hv : VR G H.next E v u) : OutA P G B w0 E H w s v H el p :=
  ⟨u, w, E, .inl hr, hv, Nat.le_refl _, Ext.refl _ _, h, fun hlt => absurd hlt (Nat.lt_irrefl _)⟩
/-- Appending into a new block. -/
theorem app_fresh {p : Option (Nat × Nat)} (h : HRel G B w0 E H w) {s : Sem Next} {f : Nat} {alt : Option Nat} (hf : f = H.next ∨ ((H.fam f).isSome = true ∧ f < H.next)) (halt : ∀ b, alt = some b → ∃ cs1, H.row b = some (f, cs1))
    {sz len m cap : Nat} {el : TypeId} {z : Array Value} (hz : z.size = sz) {cells : List AV} {us : List Value} (hv : VRs G H.next E cells us) (hl : us.length = (len + m) * sz) (hcap : len + m ≤ cap)
    (hr : s.run P w = .ok (.value (.slice (some ⟨w.heap.size, 0, none⟩) (len + m) cap)) (w.drew.alloc (.cells (us.toArray ++ Builtin.zeroCells z (cap - (len + m))) el))) :
    OutA P G B w0 E H w s (.slc (some (H.next, 0)) sz (len + m) none) (H.add f alt cells) el p := by
  have hrest : (us.toArray ++ Builtin.zeroCells z (cap - (len + m))) = (us ++ (Builtin.zeroCells z (cap - (len + m))).toList).toArray := by simp
  have hlen : (Builtin.zeroCells z (cap - (len + m))).toList.length = (cap - (len + m)) * sz := by rw [Array.length_toList, zeroCells_len, hz]
  have hsum : us.length + (Builtin.zeroCells z (cap - (len + m))).toList.length = cap * sz := by
    rw [hl, hlen, ← Nat.add_mul]; congr 1; omega
  have hadd := (h.drew).fresh_add f alt cells hf halt us (Builtin.zeroCells z (cap - (len + m))).toList hv (cap * sz) (by rw [hl]; exact Nat.mul_le_mul_right _ hcap) (by omega) el (0, 0) (.inr rfl)
  rw [hrest] at hr
  refine ⟨_, _, _, .inl hr, ⟨by show H.next < H.next + 1; omega, _, _, rfl, hcap, (fun k hk => by cases hk), (fun hp => ?_)⟩, by show H.next ≤ H.next + 1; omega, ext_upd _ _ _, hadd, fun _ => .inl ⟨by rw [upd_same], _, _, by rw [upd_same]; exact heap_alloc_at _ _⟩⟩
  rw [upd_same]
  exact ⟨rfl, by simp⟩
/-- Appending what is at hand: 'us' are the cells that come behind. -/
theorem s_app_core {s : Sem Next} {A : Sem Value} {q : Value} {el : TypeId} {i : TypeInfo} {zv : Value} {sz by_ : Nat} {p : Option (Nat × Nat)} {sv len : Nat} {cap : Option Nat} {m : Nat} {xs' : List AV} {us : List Value} (h : HRel G B w0 E H w)
    (v1 : VR G H.next E (.slc p sv len cap) q) (his : i.size = sz) (j2 : i.bytes = by_) (hzc : zv.cells.size = sz) (fv : VRs G H.next E xs' us) (fus : us.length = m * sz)
    (hR : ∀ {base : Option Addr} {sLen sCap : Nat} {w' : World}, q = .slice base sLen sCap → sLen + m ≤ sCap → (match base with | some a => storeCells (a.add (sLen * i.size)) us.toArray.toList | none => pure () : Sem Unit).run P w = .ok () w' → A.run P w = .ok (.slice base (sLen + m) sCap) w')
    (hG : ∀ {base : Option Addr} {sLen sCap : Nat} {olds : Array Value}, q = .slice base sLen sCap → (Builtin.firstCells i.size sLen (.slice base sLen sCap)).run P w.drew = .ok olds w.drew → sCap < sLen + m → sLen + m ≤ 2 ^ 60 → Builtin.nextslicecap (sLen + m) sCap * i.bytes ≤ 281474976710656 →
      A.run P w = .ok (.slice (some ⟨w.heap.size, 0, none⟩) (sLen + m) (grownCap w (sLen + m) sCap el)) (w.drew.alloc (.cells (olds ++ us.toArray ++ Builtin.zeroCells zv.cells (grownCap w (sLen + m) sCap el - (sLen + m))) el)))
    (hex : ∀ {val : Value} {w1 : World}, A.run P w = .ok val w1 → s.run P w = .ok (.value val) w1)
    (hs : H.app sz by_ p sv len cap m xs' = some (v, H')) : OutA P G B w0 E H w s v H' el p := by
  unfold AHeap.app at hs
  split at hs
  · -- nothing is appended
    rename_i hm0
    simp only [Option.some.injEq, Prod.mk.injEq] at hs
    obtain ⟨rfl, rfl⟩ := hs
    subst hm0
    have hus : us = [] := List.eq_nil_of_length_eq_zero (by rw [fus]; simp)
    subst hus
    cases p with
    | none =>
      obtain ⟨rfl, q1'⟩ := v1
      refine OutA.pure h (u := .slice none 0 0) (hex ?_) ⟨rfl, rfl⟩
      exact hR q1' (Nat.le_refl _) rfl
    | some p =>
      obtain ⟨q1, ad, cc, q2, q3, q4, q5⟩ := v1
      refine OutA.pure h (u := .slice (some ad) len cc) (hex ?_) ⟨q1, ad, cc, rfl, q3, q4, q5⟩
      exact hR q2 q3 rfl
  · rename_i hm0
    split at hs
    · cases hs
    · rename_i hcond
      simp only [not_or, Nat.not_lt, ne_eq, Decidable.not_not, Bool.not_eq_false] at hcond
      obtain ⟨c1, c2, c3, c4, c5⟩ := hcond
      have hfit : ∀ old, old < len + m → Builtin.nextslicecap (len + m) old * i.bytes ≤ 281474976710656 := fun old ho => growslice_fits ho (by rw [j2]; omega)
      cases p with
      | none =>
        obtain ⟨rfl, q1'⟩ := v1
        simp only [Option.some.injEq, Prod.mk.injEq] at hs
        obtain ⟨rfl, rfl⟩ := hs
        have hr := hG q1' (olds := #[]) (by simp [Builtin.firstCells]) (by omega) (by omega) (hfit 0 (by omega))
        rw [new_eq_add]
        have := app_fresh (p := none) (P := P) (s := s) h (f := H.next) (alt := none) (.inl rfl) (fun b hb => by cases hb) (len := 0) (m := m) (el := el) hzc fv (by rw [fus]; simp) (grownCap_ge' w (0 + m) 0 el) (hex (by simpa using hr))
        simpa using this
      | some p =>
        obtain ⟨b, off⟩ := p
        obtain ⟨q1, ad, cc, q2, q3, q4, q5⟩ := v1
        simp only at hs
        split at hs
        · -- a slice without room
          rename_i h0
          obtain ⟨rfl, rfl⟩ := h0
          have hcc0 := q4 0 rfl
          subst hcc0
          simp only [Option.some.injEq, Prod.mk.injEq] at hs
          obtain ⟨rfl, rfl⟩ := hs
          have hr := hG q2 (olds := #[]) (by simp [Builtin.firstCells, Go.loadCells, loadCellsFrom]) (by omega) (by omega) (hfit 0 (by omega))
          rw [new_eq_add]
          have := app_fresh (p := some (b, off)) (P := P) (s := s) h (f := H.next) (alt := none) (.inl rfl) (fun b hb => by cases hb) (len := 0) (m := m) (el := el) hzc fv (by rw [fus]; simp) (grownCap_ge' w (0 + m) 0 el) (hex (by simpa using hr))
          simpa using this
        · rename_i h0
          cases hrow : H.row b with
          | none => simp [hrow] at hs
          | some pr =>
            obtain ⟨f, cs⟩ := pr
            simp only [hrow] at hs
            split at hs
            · rename_i hcs
              obtain ⟨rfl, hlen⟩ := hcs
              have hld : H.ld b off (len * sv) = some ((cs.drop off).take (len * sv)) := by unfold AHeap.ld; rw [hrow]; simp [hlen]
              obtain ⟨_, ous, o2, _, o4, o5⟩ := h.loadCells (P := P) hld
              have hoall : VRs G H.next E ((cs.drop off).take (len * sv) ++ xs') (ous ++ us) := o2.append fv
              have hol : (ous ++ us).length = (len + m) * sv := by rw [List.length_append, o4, fus, Nat.add_mul]
              -- where it is made anew
              have grow : ∀ (f' : Nat) (alt : Option Nat), cc < len + m → (f' = H.next ∨ ((H.fam f').isSome = true ∧ f' < H.next)) → (∀ b, alt = some b → ∃ cs1, H.row b = some (f', cs1)) →
                  OutA P G B w0 E H w (s) (.slc (some (H.next, 0)) sv (len + m) none) (H.add f' alt ((cs.drop off).take (len * sv) ++ xs')) el (some (b, off)) := by
                intro f' alt hlt hf' halt'
                have holds : (Builtin.firstCells i.size len (.slice (some ad) len cc)).run P w.drew = .ok ous.toArray w.drew := by
                  rw [his]
                  by_cases hl0 : len = 0
                  · subst hl0
                    have : ous = [] := List.eq_nil_of_length_eq_zero (by rw [o4]; simp)
                    subst this
                    simp [Builtin.firstCells, Go.loadCells, loadCellsFrom]
                  · obtain ⟨q6, _⟩ := q5 (by omega)
                    rw [q6]
                    have := run_loadCells_list (P := P) w.drew ⟨(E b).g, (E b).o + off, none⟩ ous (fun j u hj => by rw [add_at]; exact o5 j u hj)
                    rw [o4] at this
                    simpa [Builtin.firstCells] using this
                have hr := hG q2 holds hlt (by omega) (hfit cc hlt)
                exact app_fresh (P := P) (s := s) h hf' halt' (len := len) (m := m) (el := el) hzc hoall hol (grownCap_ge' w (len + m) cc el) (hex (by simpa [List.append_assoc] using hr))
              -- where there is room
              have room : ∀ cap', len + m ≤ cc → (H.fam f).isSome = true → (∀ k, cap' = some k → cc = k) →
                  OutA P G B w0 E H w (s) (.slc (some (H.next, 0)) sv (len + m) cap') (H.share f b (decide (off + len * sv = cs.length)) ((cs.drop off).take (len * sv) ++ xs')) el (some (b, off)) := by
                intro cap' hle hfs hcap'
                obtain ⟨q6, q7⟩ := q5 (by omega)
                have hxl : xs'.length = m * sv := c3
                have hroom : off + len * sv + xs'.length ≤ (E b).C := by
                  have : (len + m) * sv ≤ cc * sv := Nat.mul_le_mul_right _ hle
                  rw [Nat.add_mul] at this
                  omega
                obtain ⟨r1, r2, r3⟩ := h.room hrow hfs hlen xs' hroom fv
                have hst := run_storeCells_cells (P := P) (E b).g ((E b).o + off + len * sv) us 0 w (by simpa using r2) (by simpa using r3) (fv.oneCell c4)
                simp only [Nat.add_zero] at hst
                have hr := hR (w' := w.setCells (E b).g ((E b).o + off + len * sv) us) q2 hle (by
                  rw [q6, his]
                  simp only [add_at]
                  exact hst)
                refine ⟨_, _, _, .inl (hex hr), ⟨by show H.next < H.next + 1; omega, _, _, rfl, hle, hcap', fun hp => ?_⟩, by show H.next ≤ H.next + 1; omega, ext_upd _ _ _, r1, fun _ => .inr ⟨b, off, rfl, q1, by rw [upd_same], by rw [upd_same], TK.setCells _ _ _ _⟩⟩
                rw [upd_same]
                refine ⟨q6, ?_⟩
                show 0 + cc * sv ≤ (E b).C - off
                omega
              have hfr : ∀ hfs : (H.fam f).isSome = true, (f = H.next ∨ ((H.fam f).isSome = true ∧ f < H.next)) := fun hfs => .inr ⟨hfs, h.famlt _ _ _ (row_blk hrow)⟩
              cases cap with
              | some k =>
                simp only at hs
                have hck := q4 k rfl
                subst hck
                split at hs
                · rename_i hle
                  split at hs
                  · rename_i hfs
                    simp only [Option.some.injEq, Prod.mk.injEq] at hs
                    obtain ⟨rfl, rfl⟩ := hs
                    exact room (some cc) hle hfs (fun k hk => by simpa using hk)
                  · cases hs
                · rename_i hle
                  simp only [Option.some.injEq, Prod.mk.injEq] at hs
                  obtain ⟨rfl, rfl⟩ := hs
                  rw [new_eq_add]
                  exact grow H.next none (by omega) (.inl rfl) (fun b hb => by cases hb)
              | none =>
                simp only at hs
                split at hs
                · rename_i hfs
                  simp only [Option.some.injEq, Prod.mk.injEq] at hs
                  obtain ⟨rfl, rfl⟩ := hs
                  by_cases hle : len + m ≤ cc
                  · exact room none hle hfs (fun k hk => by cases hk)
                  · rw [share_eq_add]
                    exact grow f _ (by omega) (hfr hfs) (fun b' hb' => by
                      split at hb'
                      · simp at hb'; subst hb'; exact ⟨_, hrow⟩
                      · cases hb')
                · cases hs
            · cases hs
/-! ### copy -/
theorem s_app_A (c : Call) (hop : o.op = .call c) (hcal : c.callee = .builtin .append) {t u' : TypeId} {ts : List TypeId} {x y : Operand} {xs : List Operand} (hts : c.argTypes.toList = t :: u' :: ts) (hxs : c.args.toList = x :: y :: xs)
    {el : TypeId} (ht : P.underlying t = some (.slice el)) {du : TypeDesc} (hu : P.underlying u' = some du) {sz by_ : Nat} {z : AV} (hm : sizeT P el = some sz) (hb : bytesT P el = some by_) (hz : zeroOf P el = some z) (hsz : sz = z.cells.length)
    (hni : du = .string ∨ ∃ e, du = .slice e)
    {x' y' : AOpd} (h1 : opd G x = some x') (h2 : opd G y = some y') (he : EnvR G H.next E env a) (h : HRel G B w0 E H w) {p : Option (Nat × Nat)} {sv len : Nat} {cap : Option Nat} (e1 : env.ev x' = .slc p sv len cap) {m : Nat} {xs' : List AV} (hln : Am.lenOf (env.ev y') = some m) (hcc : H.cellsOf sz (env.ev y') = some xs')
    (hs : H.app sz by_ p sv len cap m xs' = some (v, H')) : OutA P G B w0 E H w (execOp a.eval o) v H' el p := by
  have v1 := opd_VR he h1
  have v2 := opd_VR he h2
  rw [e1] at v1
  obtain ⟨i, hi, his⟩ := info_size hm
  obtain ⟨i', j1, j2⟩ := bytes_info hb
  rw [hi] at j1; simp at j1; subst j1
  obtain ⟨i', zv, k1, k2, k3⟩ := zero_info hz
  rw [hi] at k1; simp at k1; subst k1
  have hzc : zv.cells.size = sz := by have := (ofValue_cells (G := G) (n := H.next) (E := E) k3).length; rw [Array.length_toList] at this; omega
  obtain ⟨fl, us, fv, fus, frun⟩ := h.firstCells (P := P) v2 hln hcc
  have hn : ∀ w', (Builtin.lenOf (a.eval y)).run P w' = .ok m w' := by
    intro w'
    have : ∀ q : Value, (Builtin.lenOf q).run P w = .ok m w → (Builtin.lenOf q).run P w' = .ok m w' := by
      intro q hq; cases q <;> simp [Builtin.lenOf] at hq ⊢ <;> exact hq
    exact this _ fl
  have t0 := get0 hts
  have t1 := get1 hts
  have a0' : ∀ q, a.eval x = q → (c.args.map a.eval)[0]? = some q := fun q hq => by rw [map_get0 hxs, hq]
  have a1' := map_get1 (a := a) hxs
  have hex : ∀ {val : Value} {w1 : World}, (Builtin.append_ c.argTypes o.type (c.args.map a.eval)).run P w = .ok val w1 → (execOp a.eval o).run P w = .ok (.value val) w1 := by
    intro val w1 hr
    rw [exec_builtin hop hcal]
    simp [builtin, hr]
  have hnewsW : (Builtin.firstCells i.size m (a.eval y)).run P w = .ok us.toArray w := by rw [his]; exact frun w (fun _ _ hh => hh)
  have hnewsD : (Builtin.firstCells i.size m (a.eval y)).run P w.drew = .ok us.toArray w.drew := by rw [his]; exact frun w.drew (fun _ _ hh => hh)
  exact s_app_core h v1 his j2 hzc fv fus
    (fun hq hle hst => run_app_room t0 t1 hu hni ht hi (a0' _ hq) a1' hn hnewsW hle hst)
    (fun hq ho hlt h60 hfit => run_app_grow t0 t1 hu hni ht hi k2 (a0' _ hq) a1' hn ho hnewsD hlt h60 hfit) hex hs
theorem s_app (c : Call) (hop : o.op = .call c) (hcal : c.callee = .builtin .append) {t u' : TypeId} {ts : List TypeId} {x y : Operand} {xs : List Operand} (hts : c.argTypes.toList = t :: u' :: ts) (hxs : c.args.toList = x :: y :: xs)
    {el : TypeId} (ht : P.underlying t = some (.slice el)) {du : TypeDesc} (hu : P.underlying u' = some du) {sz by_ : Nat} {z : AV} (hm : sizeT P el = some sz) (hb : bytesT P el = some by_) (hz : zeroOf P el = some z) (hsz : sz = z.cells.length)
    (hni : du = .string ∨ ∃ e, du = .slice e)
    (hc : with2 G (.w (.app sz by_)) x y = some (opc, args)) (he : EnvR G H.next E env a) (h : HRel G B w0 E H w) (hs : osem C opc (args.map env.ev) H = some (v, H')) :
    Out P G B w0 E H w (execOp a.eval o) v H' := by
  obtain ⟨x', y', h1, h2, rfl, rfl⟩ := with2_eq hc
  simp only [List.map_cons, List.map_nil, osem] at hs
  cases e1 : env.ev x' <;> rw [e1] at hs <;> simp only [wsem, reduceCtorEq] at hs
  rename_i p sv len cap
  cases hln : Am.lenOf (env.ev y') with
  | none => simp [hln] at hs
  | some m =>
    cases hcc : H.cellsOf sz (env.ev y') with
    | none => simp [hln, hcc] at hs
    | some xs' =>
      simp only [hln, hcc] at hs
      exact (s_app_A c hop hcal hts hxs ht hu hm hb hz hsz hni h1 h2 he h e1 hln hcc hs).out
theorem s_cpy (c : Call) (hop : o.op = .call c) (hcal : c.callee = .builtin .copy) {t u' : TypeId} {ts : List TypeId} {x y : Operand} {xs : List Operand} (hts : c.argTypes.toList = t :: u' :: ts) (hxs : c.args.toList = x :: y :: xs)
    {el : TypeId} (ht : P.underlying t = some (.slice el)) {sz : Nat} (hm : sizeT P el = some sz)
    (hc : with2 G (.w (.cpy sz)) x y = some (opc, args)) (he : EnvR G H.next E env a) (h : HRel G B w0 E H w) (hs : osem C opc (args.map env.ev) H = some (v, H')) :
    Out P G B w0 E H w (execOp a.eval o) v H' := by
  obtain ⟨x', y', h1, h2, rfl, rfl⟩ := with2_eq hc
  have v1 := opd_VR he h1
  have v2 := opd_VR he h2
  simp only [List.map_cons, List.map_nil, osem] at hs
  cases e1 : env.ev x' <;> rw [e1] at hs v1 <;> simp only [wsem, reduceCtorEq] at hs
  rename_i p sv len cap
  cases hln : Am.lenOf (env.ev y') with
  | none => simp [hln] at hs
  | some m =>
    cases hcc : H.cellsOf sz (env.ev y') with
    | none => simp [hln, hcc] at hs
    | some xs' =>
      simp only [hln, hcc] at hs
      obtain ⟨i, hi, his⟩ := info_size hm
      obtain ⟨fl, us, fv, fus, frun⟩ := h.firstCells (P := P) v2 hln hcc
      have t0 := get0 hts
      have t1 := get1 hts
      have a1' := map_get1 (a := a) hxs
      have hex : ∀ {val : Value} {w1 : World}, (Builtin.copy_ c.argTypes o.type (c.args.map a.eval)).run P w = .ok val w1 → (execOp a.eval o).run P w = .ok (.value val) w1 := by
        intro val w1 hr
        rw [exec_builtin hop hcal]
        simp [builtin, hr]
      -- the first n elements of what is read
      have hfc : ∀ k, k ≤ m → (Builtin.firstCells sz k (a.eval y)).run P w = .ok (us.take (k * sz)).toArray w := by
        intro k hk
        have hfull := frun w (fun _ _ hh => hh)
        cases e2 : env.ev y' <;> rw [e2] at hln hcc v2 <;> simp only [Am.lenOf, reduceCtorEq, Option.some.injEq] at hln
        · rename_i s
          subst hln
          rw [show a.eval y = _ from v2] at hfull ⊢
          simp only [AHeap.cellsOf] at hcc
          split at hcc
          · rename_i hz1
            subst hz1
            simp only [Builtin.firstCells, bs_extract, Sem.run_pure, Result.ok.injEq] at hfull ⊢
            refine ⟨?_, trivial⟩
            have h3 := hfull.1
            simp only [List.drop_zero, List.take_length] at h3
            have : us = s.map fun b => Value.int .u8 b.toNat := by
              have := congrArg Array.toList h3
              simpa using this.symm
            rw [this]
            apply Array.ext'
            simp [List.map_take]
          · cases hcc
        · rename_i p' sv' len' cap'
          subst hln
          cases p' with
          | none =>
            obtain ⟨rfl, q⟩ := v2
            have hk0 : k = 0 := by omega
            subst hk0
            rw [q]
            simp [Builtin.firstCells]
          | some p' =>
            obtain ⟨b', off'⟩ := p'
            obtain ⟨q1, ad, cc, q2, q3, q4, q5⟩ := v2
            rw [q2]
            simp only [AHeap.cellsOf] at hcc
            by_cases hl0 : k = 0
            · subst hl0
              simp [Builtin.firstCells, Go.loadCells, loadCellsFrom]
            · rw [if_neg (by omega)] at hcc
              obtain ⟨q6, _⟩ := q5 (by omega)
              obtain ⟨_, us2, r2, _, r4, r5⟩ := h.loadCells (P := P) hcc
              have hus : us2 = us := by
                have e3 := frun w (fun _ _ hh => hh)
                rw [q2, q6] at e3
                have e4 := run_loadCells_list (P := P) w ⟨(E b').g, (E b').o + off', none⟩ us2 (fun j u hj => by rw [add_at]; exact r5 j u hj)
                rw [r4] at e4
                simp only [Builtin.firstCells, e4, Result.ok.injEq] at e3
                simpa using congrArg Array.toList e3.1
              subst hus
              rw [q6]
              have hkl : (us2.take (k * sz)).length = k * sz := by
                rw [List.length_take, fus]
                exact Nat.min_eq_left (Nat.mul_le_mul_right _ hk)
              have e4 := run_loadCells_list (P := P) w ⟨(E b').g, (E b').o + off', none⟩ (us2.take (k * sz)) (fun j u hj => by
                rw [add_at]
                refine r5 j u ?_
                rw [List.getElem?_take] at hj
                split at hj
                · exact hj
                · cases hj)
              rw [hkl] at e4
              simpa [Builtin.firstCells] using e4
      split at hs
      · rename_i hn0
        simp only [Option.some.injEq, Prod.mk.injEq] at hs
        obtain ⟨rfl, rfl⟩ := hs
        refine Out.pure h (u := .int .i64 0) (hex ?_) rfl
        have hf0 := hfc 0 (by omega)
        simp only [Nat.zero_mul, List.take_zero] at hf0
        have hu : ∃ ad c', a.eval x = .slice ad len c' := by
          cases p with
          | none => obtain ⟨rfl, q⟩ := v1; exact ⟨_, _, q⟩
          | some p => obtain ⟨_, ad, c', q, _⟩ := v1; exact ⟨_, _, q⟩
        obtain ⟨ad, c', q⟩ := hu
        have hn0' : Nat.min m len = 0 := hn0
        cases ad <;> simp [Builtin.copy_, t0, map_get0 (a := a) hxs, q, a1', run_underlying ht, fl, hn0', run_sizeOf hm, hf0, storeCells, goInt]
      · rename_i hn0
        cases p with
        | none => simp at hs
        | some p =>
          obtain ⟨b, off⟩ := p
          simp only at hs
          split at hs
          · rename_i hle
            cases hst : H.st b off (xs'.take (Nat.min m len * sz)) with
            | none => simp [hst] at hs
            | some H1 =>
              simp only [hst, Option.some.injEq, Prod.mk.injEq] at hs
              obtain ⟨rfl, rfl⟩ := hs
              obtain ⟨q1, ad, cc, q2, q3, q4, q5⟩ := v1
              have hml : Nat.min m len ≤ len := Nat.min_le_right _ _
              have hml0 : Nat.min m len ≠ 0 := hn0
              obtain ⟨q6, _⟩ := q5 (by omega)
              obtain ⟨r1, r2, r3, r4, r5, r6⟩ := h.st hst (fv.take (Nat.min m len * sz))
              have hstr := run_storeCells_cells (P := P) (E b).g ((E b).o + off) (us.take (Nat.min m len * sz)) 0 w (by simpa using r4) (by simpa using r5) r6
              simp only [Nat.add_zero] at hstr
              have hf := hfc (Nat.min m len) (Nat.min_le_left _ _)
              refine ⟨.int .i64 (Nat.min m len : Nat), _, E, .inl (hex (w1 := w.setCells (E b).g ((E b).o + off) (us.take (Nat.min m len * sz))) ?_), rfl, by rw [r2]; exact Nat.le_refl _, Ext.refl _ _, r3⟩
              simp [Builtin.copy_, t0, map_get0 (a := a) hxs, q2, a1', run_underlying ht, fl, run_sizeOf hm, hf, q6, hstr, goInt]
          · cases hs
/-! ### A string turned into bytes -/
theorem bytesWorld_eq (w : World) (e : TypeId) (s : ByteArray) : Lib.bytesWorld w e s = w.drew.alloc (.cells (Lib.bytesCells w e s) e ((Lib.bytesCells w e s).size, (Lib.bytesCells w e s).size + 1)) := by
  have h1 : (Lib.bytesWorld w e s).heap = (w.drew.alloc (.cells (Lib.bytesCells w e s) e ((Lib.bytesCells w e s).size, (Lib.bytesCells w e s).size + 1))).heap := by
    apply Array.ext_getElem?
    intro j
    rcases Nat.lt_trichotomy j w.heap.size with h | h | h
    · rw [Lib.bytesWorld_at_old w e s j h, Below.heap_alloc _ _ _ (by exact h)]; rfl
    · subst h
      rw [Lib.bytesWorld_at_new]
      exact (heap_alloc_at w.drew _).symm
    · rw [Array.getElem?_eq_none (by rw [Lib.bytesWorld_size]; omega), Array.getElem?_eq_none]
      show (w.heap.push _).size ≤ j
      rw [Array.size_push]; omega
  have h2 : ∀ (a b : World), a.heap = b.heap → a.tape = b.tape → a.drawn = b.drawn → a.os = b.os → a.output = b.output → a = b := by
    intro a b; cases a; cases b; simp; intros; simp_all
  refine h2 _ _ h1 ?_ ?_ ?_ ?_ <;> (unfold Lib.bytesWorld World.freeze; rw [if_neg (by omega)]; rfl)
theorem s_s2b (s d e : TypeId) (x : Operand) (hop : o.op = .convert s d x) (q1 : P.underlying s = some .string) (q2 : P.underlying d = some (.slice e)) (q3 : P.underlying e = some (.int .u8))
    (hc : with1 G (.w .s2b) x = some (opc, args)) (he : EnvR G H.next E env a) (h : HRel G B w0 E H w) (hs : osem C opc (args.map env.ev) H = some (v, H')) :
    Out P G B w0 E H w (execOp a.eval o) v H' := by
  obtain ⟨x', h1, rfl, rfl⟩ := with1_eq hc
  have hv := opd_VR he h1
  simp only [List.map_cons, List.map_nil, osem] at hs
  cases e1 : env.ev x' <;> rw [e1] at hs hv <;> simp only [wsem, reduceCtorEq] at hs
  rename_i l
  split at hs
  · rename_i hl
    simp only [Option.some.injEq, Prod.mk.injEq] at hs
    obtain ⟨rfl, rfl⟩ := hs
    have hr := Lib.run_convert_string_bytes (P := P) w s d e ⟨⟨l⟩⟩ q1 q2 q3
    rw [bytesWorld_eq] at hr
    have hge := grownCap_ge' w (⟨⟨l⟩⟩ : ByteArray).size 0 e
    rw [bs_size] at hge
    have hcells : Lib.bytesCells w e ⟨⟨l⟩⟩ = (l.map (fun c : UInt8 => Value.int .u8 c.toNat) ++ List.replicate (grownCap w l.length 0 e - l.length) (Value.int .u8 0)).toArray := by
      unfold Lib.bytesCells
      rw [bs_size]
      apply Array.ext'
      simp
    have hsz : (Lib.bytesCells w e ⟨⟨l⟩⟩).size = grownCap w l.length 0 e := by rw [hcells]; simp; omega
    rw [hsz, hcells] at hr
    have hvs : VRs G H.next E (l.map fun c : UInt8 => AV.int .u8 c.toNat) (l.map fun c : UInt8 => Value.int .u8 c.toNat) := by
      refine VRs.of_get (by simp) (fun j v hj => ?_)
      rw [List.getElem?_map] at hj ⊢
      cases hq : l[j]? with
      | none => simp [hq] at hj
      | some c => simp [hq] at hj; subst hj; exact ⟨_, rfl, rfl⟩
    have hnew := (h.drew).new (l.map fun c : UInt8 => AV.int .u8 c.toNat) (l.map fun c : UInt8 => Value.int .u8 c.toNat) (List.replicate (grownCap w l.length 0 e - l.length) (Value.int .u8 0)) hvs (grownCap w l.length 0 e) (by simpa using hge) (by simp; omega) e (grownCap w l.length 0 e, grownCap w l.length 0 e + 1) (.inl (Nat.le_refl _))
    refine ⟨_, _, _, .inl (by simp only [execOp, hop, show a.eval x = _ from hv, Sem.run_bind, hr, Result.andThen_ok, Sem.run_pure]; rfl), ⟨by show H.next < H.next + 1; omega, _, _, rfl, by rw [bs_size]; exact hge, (fun k hk => by cases hk), (fun hp => ?_)⟩, by show H.next ≤ H.next + 1; omega, ext_upd _ _ _, hnew⟩
    rw [upd_same]
    refine ⟨rfl, ?_⟩
    rw [bs_size]
    simp
  · cases hs
end
end Go.Am

/- Operations on maps. -/
set_option linter.unusedVariables false
set_option linter.unusedSimpArgs false
namespace Go.Am
open Go.RowKit
variable {G : Nat → Nat} {P : Program}
section
variable {B : Prot} {w0 : Base} {w : World} {E : Nat → Ent} {H : AHeap}
variable {C : CallF} {o : Oper} {opc : AOpc} {args : List AOpd} {env : Env} {a : Act} {v : AV} {H' : AHeap}
/-- The type of a key's kind. -/
def DescK : CK → TypeDesc → Prop
  | .int, d => ∃ k, d = .int k
  | .bool, d => d = .bool
  | .str, d => d = .string
theorem ckT_desc {t : TypeId} {ck : CK} (h : ckT P t = some ck) : ∃ d, P.underlying t = some d ∧ DescK ck d := by
  unfold ckT at h
  cases hd : P.underlying t with
  | none => simp [hd] at h
  | some d => cases d <;> simp [hd] at h <;> subst h <;> first | exact ⟨_, rfl, _, rfl⟩ | exact ⟨_, rfl, rfl⟩
theorem keyEq_now {n : Nat} {E : Nat → Ent} {ck : CK} {d : TypeDesc} (hd : DescK ck d) {x y : AV} {b : Bool} (h : keyEq ck x y = some b) {u v : Value} (hu : VR G n E x u) (hv : VR G n E y v) : Instr.sameNow d u v = some b := by
  cases ck <;> cases x <;> cases y <;> simp only [keyEq, reduceCtorEq] at h
  · obtain ⟨k, rfl⟩ := hd
    split at h
    · rename_i hk; subst hk
      rw [show u = _ from hu, show v = _ from hv]
      simp [Instr.sameNow]
      simpa using h
    · cases h
  · rw [show d = _ from hd, show u = _ from hu, show v = _ from hv]
    simpa [Instr.sameNow] using h
  · rw [show d = _ from hd, show u = _ from hu, show v = _ from hv]
    rename_i p q
    simp only [Option.some.injEq] at h
    subst h
    simp only [Instr.sameNow, Option.some.injEq]
    show ((⟨p⟩ : Array UInt8) == ⟨q⟩) = (p == q)
    simp
theorem findK_now {n : Nat} {E : Nat → Ent} {ck : CK} {d : TypeDesc} (hd : DescK ck d) {k : AV} {u : Value} (hu : VR G n E k u) : ∀ {as : List (AV × AV)} {es : List MapEntry} {i : Nat} {r : Option (Nat × AV)}, EntsR G n E as es → findK ck k as i = some r →
    (r = none ∧ Instr.findNow d u es i = some none) ∨ ∃ j x z, r = some (i + j, x) ∧ as[j]? = some (z, x) ∧ keyEq ck k z = some true ∧ ∃ e, es[j]? = some e ∧ Instr.findNow d u es i = some (some (i + j, e.val)) ∧ VR G n E z e.key ∧ VR G n E x e.val
  | [], es, i, r, he, h => by
    rw [show es = [] from he]
    simp [findK] at h
    subst h
    exact .inl ⟨rfl, rfl⟩
  | (z, x) :: as, es, i, r, he, h => by
    obtain ⟨e, es', rfl, h1, h2, h3⟩ := he
    unfold findK at h
    cases hk : keyEq ck k z with
    | none => simp [hk] at h
    | some b =>
      have hn := keyEq_now hd hk hu h1
      cases b with
      | true =>
        simp [hk] at h
        subst h
        exact .inr ⟨0, x, z, rfl, rfl, hk, e, rfl, by simp [Instr.findNow, hn], h1, h2⟩
      | false =>
        simp [hk] at h
        rcases findK_now hd hu h3 h with ⟨r1, r2⟩ | ⟨j, x', z', r1, r2, r3, e', r4, r5, r6, r7⟩
        · exact .inl ⟨r1, by simp [Instr.findNow, hn, r2]⟩
        · exact .inr ⟨j + 1, x', z', by rw [r1]; congr 2; omega, by simpa using r2, r3, e', by simpa using r4, by simp only [Instr.findNow, hn, r5]; congr 3; omega, r6, r7⟩
theorem EntsR.length {n : Nat} {E : Nat → Ent} : ∀ {as : List (AV × AV)} {es : List MapEntry}, EntsR G n E as es → es.length = as.length
  | [], es, h => by rw [show es = [] from h]; rfl
  | (k, v) :: r, es, ⟨e, es', h1, _, _, h4⟩ => by rw [h1]; simp [EntsR.length h4]
theorem EntsR.get {n : Nat} {E : Nat → Ent} : ∀ {as : List (AV × AV)} {es : List MapEntry}, EntsR G n E as es → ∀ {i : Nat} {k v : AV}, as[i]? = some (k, v) → ∃ e, es[i]? = some e ∧ VR G n E k e.key ∧ VR G n E v e.val
  | [], es, h, i, k, v, hi => by simp at hi
  | (k', v') :: r, es, ⟨e', es', h1, h2, h3, h4⟩, 0, k, v, hi => by simp at hi; obtain ⟨rfl, rfl⟩ := hi; exact ⟨e', by rw [h1]; rfl, h2, h3⟩
  | (k', v') :: r, es, ⟨e', es', h1, h2, h3, h4⟩, i + 1, k, v, hi => by
    obtain ⟨e, q1, q2, q3⟩ := EntsR.get h4 (by simpa using hi)
    exact ⟨e, by rw [h1]; simpa using q1, q2, q3⟩
theorem set_same {α : Type} {l : List α} {i : Nat} {x : α} (h : l[i]? = some x) : l.set i x = l := by
  apply List.ext_getElem?
  intro j
  rw [List.getElem?_set]
  by_cases e : i = j
  · subst e; rw [if_pos rfl, if_pos (List.getElem?_eq_some_iff.1 h).1, h]
  · rw [if_neg e]
theorem EntsR.snoc {n : Nat} {E : Nat → Ent} {k v : AV} {e : MapEntry} (hk : VR G n E k e.key) (hv : VR G n E v e.val) : ∀ {as : List (AV × AV)} {es : List MapEntry}, EntsR G n E as es → EntsR G n E (as ++ [(k, v)]) (es ++ [e])
  | [], es, h => by rw [show es = [] from h]; exact ⟨e, [], rfl, hk, hv, rfl⟩
  | (k', v') :: r, es, ⟨e', es', h1, h2, h3, h4⟩ => ⟨e', es' ++ [e], by rw [h1]; rfl, h2, h3, EntsR.snoc hk hv h4⟩
theorem EntsR.set {n : Nat} {E : Nat → Ent} {k v : AV} {e : MapEntry} (hk : VR G n E k e.key) (hv : VR G n E v e.val) : ∀ {as : List (AV × AV)} {es : List MapEntry}, EntsR G n E as es → ∀ i, EntsR G n E (as.set i (k, v)) (es.set i e)
  | [], es, h, i => by rw [show es = [] from h]; simp [EntsR]
  | (k', v') :: r, es, ⟨e', es', h1, h2, h3, h4⟩, 0 => ⟨e, es', by rw [h1]; rfl, hk, hv, h4⟩
  | (k', v') :: r, es, ⟨e', es', h1, h2, h3, h4⟩, i + 1 => ⟨e', es'.set i e, by rw [h1]; rfl, h2, h3, EntsR.set hk hv h4 i⟩
theorem EntsR.eraseIdx {n : Nat} {E : Nat → Ent} : ∀ {as : List (AV × AV)} {es : List MapEntry}, EntsR G n E as es → ∀ i, EntsR G n E (as.eraseIdx i) (es.eraseIdx i)
  | [], es, h, i => by rw [show es = [] from h]; simp [EntsR]
  | (k', v') :: r, es, ⟨e', es', h1, h2, h3, h4⟩, 0 => by rw [h1]; exact h4
  | (k', v') :: r, es, ⟨e', es', h1, h2, h3, h4⟩, i + 1 => ⟨e', es'.eraseIdx i, by rw [h1]; rfl, h2, h3, EntsR.eraseIdx h4 i⟩
theorem run_checkKey' {ck : CK} {t : TypeId} {d : TypeDesc} (ht : P.underlying t = some d) (hd : DescK ck d) (empty : Bool) (u : Value) (n : Nat) : (Instr.checkKey empty (n + 1) t u).run P w = .ok () w := by
  cases ck with
  | int => obtain ⟨k, rfl⟩ := hd; simp [Instr.checkKey, run_underlying ht]
  | bool => rw [show d = _ from hd] at ht; simp [Instr.checkKey, run_underlying ht]
  | str => rw [show d = _ from hd] at ht; simp [Instr.checkKey, run_underlying ht]
theorem run_checkKey {ck : CK} {t : TypeId} {d : TypeDesc} (ht : P.underlying t = some d) (hd : DescK ck d) (empty : Bool) (u : Value) : (Instr.checkKey empty 10000 t u).run P w = .ok () w :=
  run_checkKey' ht hd empty u 9999
/-- What a map's entries are in the model. -/
theorem HRel.ents (h : HRel G B w0 E H w) {m : Option Nat} {u : Value} (hu : VR G H.next E (.map m) u) {es : List (AV × AV)} (he : H.ents m = some es) :
    (m = none ∧ u = .map none ∧ es = []) ∨ ∃ b g es' clock, m = some b ∧ g = (E b).g ∧ u = .map (some g) ∧ w.heap[g]? = some (.map es' clock) ∧ EntsR G H.next E es es'.toList := by
  cases m with
  | none => simp [AHeap.ents] at he; exact .inl ⟨rfl, hu, he⟩
  | some b =>
    simp only [AHeap.ents] at he
    cases hb : H.blk b with
    | none => simp [hb] at he
    | some ob =>
      cases ob with
      | row f cs => simp [hb] at he
      | sit s p => simp [hb] at he
      | mit i c d l => simp [hb] at he
      | dq t => simp [hb] at he
      | map own es0 st =>
        simp [hb] at he
        subst he
        obtain ⟨k1, k2, k3, es', clock, k4, k5, _⟩ := h.map b own es0 st hb
        exact .inr ⟨b, _, es', clock, rfl, rfl, hu.2, k4, k5⟩
theorem run_getObj_map {g : Nat} {es : Array MapEntry} {c : Nat} (h : w.heap[g]? = some (.map es c)) : (getObj g).run P w = .ok (.map es c) w := by
  simp only [getObj, Sem.run, h]
theorem s_lenM (c : Call) (hop : o.op = .call c) (hcal : c.callee = .builtin .len) {t : TypeId} {ts : List TypeId} {x : Operand} {xs : List Operand} (ht : c.argTypes.toList = t :: ts) (hx : c.args.toList = x :: xs)
    {k e : TypeId} (hd : P.underlying t = some (.map k e)) (hc : with1 G (.r .lenM) x = some (opc, args)) (he : EnvR G H.next E env a) (h : HRel G B w0 E H w) (hs : osem C opc (args.map env.ev) H = some (v, H')) :
    Out P G B w0 E H w (execOp a.eval o) v H' := by
  obtain ⟨x', h1, rfl, rfl⟩ := with1_eq hc
  obtain ⟨h2, rfl⟩ := osem_r hs
  have hv := opd_VR he h1
  simp only [List.map_cons, List.map_nil] at h2
  cases e1 : env.ev x' <;> rw [e1] at h2 hv <;> simp only [rsem, reduceCtorEq] at h2
  rename_i m
  cases hen : H'.ents m with
  | none => simp [hen] at h2
  | some es =>
    simp [hen] at h2
    subst h2
    refine Out.pure h (u := .int .i64 es.length) ?_ rfl
    rw [exec_builtin hop hcal]
    rcases h.ents hv hen with ⟨rfl, q, rfl⟩ | ⟨b, g, es', clock, rfl, _, q, q2, q3⟩
    · simp [builtin, Builtin.len_, get0 ht, map_get0 hx, run_underlying hd, q, goInt]
    · have hl := q3.length
      rw [Array.length_toList] at hl
      simp [builtin, Builtin.len_, get0 ht, map_get0 hx, run_underlying hd, q, goInt, run_getObj_map q2, hl]
theorem s_look (t : TypeId) (x i : Operand) (ok : Bool) (hop : o.op = .lookup t x i ok) {kt e : TypeId} (ht : P.underlying t = some (.map kt e)) {z : AV} (hz : zeroOf P e = some z) {ck : CK} (hck : ckT P kt = some ck)
    (hc : with2 G (.r (.look ck z ok)) x i = some (opc, args)) (he : EnvR G H.next E env a) (h : HRel G B w0 E H w) (hs : osem C opc (args.map env.ev) H = some (v, H')) :
    Out P G B w0 E H w (execOp a.eval o) v H' := by
  obtain ⟨x', y', h1, h2, rfl, rfl⟩ := with2_eq hc
  obtain ⟨h3, rfl⟩ := osem_r hs
  have v1 := opd_VR he h1
  have v2 := opd_VR he h2
  simp only [List.map_cons, List.map_nil] at h3
  cases e1 : env.ev x' <;> rw [e1] at h3 v1 <;> simp only [rsem, reduceCtorEq] at h3
  rename_i m
  obtain ⟨iz, zv, i1, i2, i3⟩ := zero_info hz
  have hzv : VR G H'.next E z zv := ofValue_VR i3
  obtain ⟨d, hd, hdk⟩ := ckT_desc hck
  cases hen : H'.ents m with
  | none => simp [hen] at h3
  | some es =>
    simp only [hen] at h3
    split at h3
    · cases hf : findK ck (env.ev y') es 0 with
      | none => simp [hf] at h3
      | some r =>
        have fin : ∀ (es' : Array MapEntry), EntsR G H'.next E es es'.toList → ((a.eval x = .map none ∧ es' = #[]) ∨ ∃ g c, a.eval x = .map (some g) ∧ w.heap[g]? = some (.map es' c)) → Out P G B w0 E H' w (execOp a.eval o) v H' := by
          intro es' hes hor
          rcases findK_now hdk v2 hes hf with ⟨rfl, q⟩ | ⟨j, xx, zz, rfl, q1, q2, ee, q3, q4, q5, q6⟩
          · simp only [hf, Option.some.injEq] at h3
            have hfk : (Instr.findKey kt (a.eval i) es'.toList).run P w = .ok none w := by simp [Instr.findKey, run_underlying hd, q]
            have hz0 : (zeroValue e).run P w = .ok zv w := by simp [zeroValue, typeInfo, i1, i2]
            have hr : (Instr.lookup t (a.eval x) (a.eval i) ok).run P w = .ok (if ok then .tuple #[zv, .bool false] else zv) w := by
              rcases hor with ⟨r1, rfl⟩ | ⟨g, cl, r1, r2⟩
              · simp [Instr.lookup, run_underlying ht, r1, run_checkKey hd hdk, hfk, hz0]
                try (cases ok <;> rfl)
              · simp [Instr.lookup, run_underlying ht, r1, run_getObj_map r2, run_checkKey hd hdk, hfk, hz0]
                try (cases ok <;> rfl)
            cases ok
            · simp at h3; subst h3
              exact Out.pure h (u := zv) (by simp [execOp, hop, hr]) hzv
            · simp at h3; subst h3
              exact Out.pure h (u := .tuple #[zv, .bool false]) (by simp [execOp, hop, hr]) ⟨_, rfl, ⟨_, _, rfl, hzv, _, _, rfl, rfl, rfl⟩⟩
          · simp only [hf, Option.some.injEq] at h3
            have hfk : (Instr.findKey kt (a.eval i) es'.toList).run P w = .ok (some (0 + j, ee.val)) w := by simp [Instr.findKey, run_underlying hd, q4]
            have hr : (Instr.lookup t (a.eval x) (a.eval i) ok).run P w = .ok (if ok then .tuple #[ee.val, .bool true] else ee.val) w := by
              rcases hor with ⟨r1, rfl⟩ | ⟨g, cl, r1, r2⟩
              · simp [Instr.lookup, run_underlying ht, r1, run_checkKey hd hdk, hfk]
                try (cases ok <;> rfl)
              · simp [Instr.lookup, run_underlying ht, r1, run_getObj_map r2, run_checkKey hd hdk, hfk]
                try (cases ok <;> rfl)
            cases ok
            · simp at h3; subst h3
              exact Out.pure h (u := ee.val) (by simp [execOp, hop, hr]) q6
            · simp at h3; subst h3
              exact Out.pure h (u := .tuple #[ee.val, .bool true]) (by simp [execOp, hop, hr]) ⟨_, rfl, ⟨_, _, rfl, q6, _, _, rfl, rfl, rfl⟩⟩
        rcases h.ents v1 hen with ⟨rfl, q, rfl⟩ | ⟨b, g, es', clock, rfl, _, q, q2, q3⟩
        · exact fin #[] rfl (.inl ⟨q, rfl⟩)
        · exact fin es' q3 (.inr ⟨g, clock, q, q2⟩)
    · cases h3
/-! ### A new object -/
theorem HRel.newObj (h : HRel G B w0 E H w) {o : AObj} (ho : o.isRow = false) (hown : o.own = true) {x : Obj} (hx : ObjR G H.next E 0 o x) : HRel G B w0 (upd E H.next ⟨w.heap.size, 0, 0⟩) (H.newObj o) (w.alloc x) := by
  have hE := ext_upd H.next E ⟨w.heap.size, 0, 0⟩
  have hs : (w.alloc x).heap.size = w.heap.size + 1 := by show (w.heap.push _).size = _; simp
  have hrow : ∀ c f cs, (H.newObj o).row c = some (f, cs) → H.row c = some (f, cs) ∧ c < H.next := by
    intro c f cs hc
    have hb := row_blk hc
    have hb' : upd H.blk H.next (some o) c = some (.row f cs) := hb
    have e : c ≠ H.next := by intro e; subst e; rw [upd_same] at hb'; simp at hb'; subst hb'; cases ho
    have hb2 := hb'
    rw [upd_ne _ _ _ e] at hb2
    refine ⟨?_, h.blk_lt hb2⟩
    simp only [AHeap.row, hb] at hc
    simp only [AHeap.row, hb2]
    exact hc
  have hgE : ∀ c, c < H.next → upd E H.next ⟨w.heap.size, 0, 0⟩ c = E c := fun c hc => upd_ne _ _ _ (by omega)
  refine ⟨h.below.alloc _, fun g hg => by have := h.size g hg; rw [hs]; omega, ?_, ?_, ?_, ?_, ?_, ?_, ?_, ⟨Nat.le_succ_of_le h.fix.1, h.fix.2.trans hE h.fix.1⟩, h.typ1 hE (TK.alloc _ _)⟩
  · intro c f cs hc
    obtain ⟨h1, h2⟩ := hrow c f cs hc
    have hg := h.glt c h2
    exact (h.row c f cs h1).move (by show H.next ≤ H.next + 1; omega) hE (fun i _ => cell_alloc_lt hg) (fun i hi => by rw [cell_alloc_lt hg]; exact hi) (fun i _ => frozen_alloc_lt hg)
  · intro c hc
    have hc' : c < H.next + 1 := hc
    by_cases e : c = H.next
    · subst e; rw [upd_same, hs]; show w.heap.size < w.heap.size + 1; omega
    · rw [hgE c (by omega), hs]; have := h.glt c (by omega); omega
  · intro c f cs d f' cs' hc hd o1 o2 hne
    obtain ⟨h1, h2⟩ := hrow c f cs hc
    obtain ⟨h3, h4⟩ := hrow d f' cs' hd
    rw [hgE c h2, hgE d h4]
    exact h.sep _ _ _ _ _ _ h1 h3 o1 o2 hne
  · intro c hc
    have hc' : H.next + 1 ≤ c := hc
    show upd H.blk H.next _ c = none
    rw [upd_ne _ _ _ (by omega)]; exact h.fresh c (by omega)
  · intro c f cs hc
    have hc' : upd H.blk H.next (some o) c = some (.row f cs) := hc
    have e : c ≠ H.next := by intro e; subst e; rw [upd_same] at hc'; simp at hc'; subst hc'; cases ho
    rw [upd_ne _ _ _ e] at hc'
    have := h.famlt _ _ _ hc'
    show f < H.next + 1; omega
  · intro m o1 hm ho1
    have hm' : upd H.blk H.next (some o) m = some o1 := hm
    by_cases e : m = H.next
    · subst e
      rw [upd_same] at hm'
      simp at hm'
      subst hm'
      rw [upd_same]
      exact ⟨by show H.next < H.next + 1; omega, (fun _ => h.free), (fun q => by rw [hown] at q; cases q), x, heap_alloc_at w _, hx.mono (by show H.next ≤ H.next + 1; omega) hE⟩
    · rw [upd_ne _ _ _ e] at hm'
      obtain ⟨k1, k2, k3, y, k4, k5⟩ := h.obj m o1 hm' ho1
      rw [hgE m k1]
      refine ⟨by show m < H.next + 1; omega, k2, k3, y, ?_, k5.mono (by show H.next ≤ H.next + 1; omega) hE⟩
      rw [Below.heap_alloc _ _ _ (h.glt m k1)]; exact k4
  · intro m o1 m' o2 hm hm' p1 p2 w1 w2 hne
    have q1 : upd H.blk H.next (some o) m = some o1 := hm
    have q2 : upd H.blk H.next (some o) m' = some o2 := hm'
    by_cases e : m = H.next
    · subst e
      by_cases e' : m' = H.next
      · exact absurd e'.symm hne
      · rw [upd_ne _ _ _ e'] at q2
        have := h.glt m' (h.blk_lt q2)
        rw [upd_same, hgE m' (h.blk_lt q2)]
        show w.heap.size ≠ _
        omega
    · rw [upd_ne _ _ _ e] at q1
      by_cases e' : m' = H.next
      · subst e'
        have := h.glt m (h.blk_lt q1)
        rw [upd_same, hgE m (h.blk_lt q1)]
        show _ ≠ w.heap.size
        omega
      · rw [upd_ne _ _ _ e'] at q2
        rw [hgE m (h.blk_lt q1), hgE m' (h.blk_lt q2)]
        exact h.sepm _ _ _ _ q1 q2 p1 p2 w1 w2 hne
theorem s_mkM (t : TypeId) (hop : o.op = .makeMap t none) (hc : some (AOpc.w .mkM, ([] : List AOpd)) = some (opc, args)) (h : HRel G B w0 E H w) (hs : osem C opc (args.map env.ev) H = some (v, H')) :
    Out P G B w0 E H w (execOp a.eval o) v H' := by
  simp at hc
  obtain ⟨rfl, rfl⟩ := hc
  simp only [List.map_nil, osem, wsem, Option.some.injEq, Prod.mk.injEq] at hs
  obtain ⟨rfl, rfl⟩ := hs
  refine ⟨.map (some w.heap.size), _, _, .inl ?_, ⟨by show H.next < H.next + 1; omega, by rw [upd_same]⟩, by show H.next ≤ H.next + 1; omega, ext_upd _ _ _, h.newObj rfl rfl ⟨#[], 0, rfl, rfl, rfl⟩⟩
  simp [execOp, hop, Instr.makeMap]
/-! ### A map written -/
def setW (w : World) (g : Nat) (ob : Obj) : World := { w with heap := w.heap.setIfInBounds g ob }
theorem setW_get (w : World) (g : Nat) (ob : Obj) (k : Nat) : (setW w g ob).heap[k]? = if k = g ∧ g < w.heap.size then some ob else w.heap[k]? := by
  show (w.heap.setIfInBounds g ob)[k]? = _
  rw [Array.getElem?_setIfInBounds]
  by_cases h : g = k
  · subst h
    by_cases h2 : g < w.heap.size
    · simp [h2]
    · rw [if_pos rfl, if_neg h2, if_neg (by omega), Array.getElem?_eq_none (by omega)]
  · rw [if_neg h, if_neg (by omega)]
theorem HRel.setObj (h : HRel G B w0 E H w) {m : Nat} {o o2 : AObj} (hm : H.blk m = some o) (ho : o.isRow = false) (hown : o.own = true) (ho2 : o2.isRow = false) (hown2 : o2.own = true) {x2 : Obj} (hx2 : ObjR G H.next E (E m).o o2 x2) :
    HRel G B w0 E (H.setObj m o2) (setW w (E m).g x2) := by
  obtain ⟨k1, k2, k3, x, k4, k5⟩ := h.obj m o hm ho
  have hB := k2 hown
  have hlt : (E m).g < w.heap.size := h.glt m k1
  have key : ∀ c f cs i, H.row c = some (f, cs) → (w.cell? ⟨(E c).g, i, none⟩).isSome = true → (E c).g ≠ (E m).g := by
    intro c f cs i hc hs e
    rw [e] at hs
    simp only [World.cell?, k4] at hs
    have := k5.noCells
    cases o <;> simp only [ObjR] at k5
    · obtain ⟨es', clk, rfl, _⟩ := k5; simp at hs
    · obtain ⟨_, rfl⟩ := k5; simp at hs
    · obtain ⟨_, _, rfl⟩ := k5; simp at hs
    · obtain ⟨_, rfl⟩ := k5; simp at hs
  have hcell : ∀ y : Addr, y.block ≠ (E m).g → (setW w (E m).g x2).cell? y = w.cell? y := by
    intro y e
    have : (setW w (E m).g x2).heap[y.block]? = w.heap[y.block]? := by rw [setW_get, if_neg (by omega)]
    exact World.cell?_of_block (by simpa using this)
  have hfro : ∀ y : Addr, y.block ≠ (E m).g → (setW w (E m).g x2).frozen? y = w.frozen? y := by
    intro y e
    have : (setW w (E m).g x2).heap[y.block]? = w.heap[y.block]? := by rw [setW_get, if_neg (by omega)]
    exact World.frozen?_of_block (by simpa using this)
  have hss : (setW w (E m).g x2).heap.size = w.heap.size := by show (w.heap.setIfInBounds _ _).size = _; simp
  have htk : TK w (setW w (E m).g x2) := TK.other (g := (E m).g) (fun cs t fz hc => k5.noCells cs t fz (by rw [k4] at hc; exact Option.some.inj hc)) (fun k hk => by rw [setW_get, if_neg (by omega)])
  have hrow : ∀ b f cs, (H.setObj m o2).row b = some (f, cs) → H.row b = some (f, cs) := by
    intro b f cs hc
    have hb := row_blk hc
    have hb' : upd H.blk m (some o2) b = some (.row f cs) := hb
    have e : b ≠ m := by intro e; subst e; rw [upd_same] at hb'; simp at hb'; subst hb'; cases ho2
    have hb2 := hb'
    rw [upd_ne _ _ _ e] at hb2
    simp only [AHeap.row, hb] at hc
    simp only [AHeap.row, hb2]
    exact hc
  refine ⟨?_, fun g hg => by rw [hss]; exact h.size g hg, ?_, fun b hb => by rw [hss]; exact h.glt b hb, ?_, ?_, ?_, ?_, ?_, h.fix, h.typ0 (Ext.refl _ _) htk⟩
  · refine ⟨h.below.os, h.below.tape, h.below.output, by rw [hss]; exact h.below.size, fun k ob hk => ?_⟩
    rw [setW_get, if_neg (by rintro ⟨e, _⟩; subst e; rw [hB] at hk; cases hk)]
    exact h.below.block k ob hk
  · intro b f cs hc
    have hr := hrow b f cs hc
    refine (h.row b f cs hr).move (Nat.le_refl _) (Ext.refl _ _) (fun i hi => ?_) (fun i hi => by rw [hcell _ (key b f cs i hr hi)]; exact hi) (fun i hi => hfro _ (key b f cs i hr hi))
    obtain ⟨u, q1, _⟩ := (h.row b f cs hr).cell i cs[i] (List.getElem?_eq_getElem hi)
    exact hcell _ (key b f cs _ hr (by rw [q1]; rfl))
  · intro b f cs d f' cs' hc hd
    exact h.sep _ _ _ _ _ _ (hrow b f cs hc) (hrow d f' cs' hd)
  · intro b hb
    show upd H.blk m _ b = none
    rw [upd_ne _ _ _ (by have : H.next ≤ b := hb; omega)]; exact h.fresh b hb
  · intro b f cs hc
    have hc' : upd H.blk m (some o2) b = some (.row f cs) := hc
    have e : b ≠ m := by intro e; subst e; rw [upd_same] at hc'; simp at hc'; subst hc'; cases ho2
    rw [upd_ne _ _ _ e] at hc'
    exact h.famlt _ _ _ hc'
  · intro m1 o1 h1 ho1
    have h1' : upd H.blk m (some o2) m1 = some o1 := h1
    by_cases e : m1 = m
    · subst e
      rw [upd_same] at h1'
      simp at h1'
      subst h1'
      refine ⟨k1, fun _ => hB, ?_, x2, by rw [setW_get, if_pos ⟨rfl, hlt⟩], hx2⟩
      intro q; rw [hown2] at q; cases q
    · rw [upd_ne _ _ _ e] at h1'
      obtain ⟨q1, q2, q3, x1, q4, q5⟩ := h.obj m1 o1 h1' ho1
      refine ⟨q1, q2, q3, x1, ?_, q5⟩
      have hne : (E m1).g ≠ (E m).g := by
        cases hw1 : o1.own with
        | true => exact h.sepm _ _ _ _ h1' hm ho1 ho hw1 hown e
        | false => exact fun e2 => (q3 hw1).1 (by rw [e2]; exact hB)
      rw [setW_get, if_neg (by omega)]; exact q4
  · intro m1 o1 m2 o3 h1 h2 p1 p2 w1 w2 hne
    have h1' : upd H.blk m (some o2) m1 = some o1 := h1
    have h2' : upd H.blk m (some o2) m2 = some o3 := h2
    have get : ∀ z oz, upd H.blk m (some o2) z = some oz → oz.isRow = false → oz.own = true → ∃ oz', H.blk z = some oz' ∧ oz'.isRow = false ∧ oz'.own = true := by
      intro z oz hz r1 r2
      by_cases e : z = m
      · subst e; exact ⟨_, hm, ho, hown⟩
      · rw [upd_ne _ _ _ e] at hz; exact ⟨_, hz, r1, r2⟩
    obtain ⟨e1, g1, g2, g3⟩ := get _ _ h1' p1 w1
    obtain ⟨e2, g4, g5, g6⟩ := get _ _ h2' p2 w2
    exact h.sepm _ _ _ _ g1 g4 g2 g5 g3 g6 hne
theorem HRel.setMap (h : HRel G B w0 E H w) {m : Nat} {es es2 : List (AV × AV)} {st st2 : List Nat × Nat} (hm : H.blk m = some (.map true es st)) {c' : Nat} {es2' : Array MapEntry}
    (he : EntsR G H.next E es2 es2'.toList) (hst : st2 = (es2'.toList.map (·.born), c')) : HRel G B w0 E (H.setMap m es2 st2) (setW w (E m).g (.map es2' c')) :=
  h.setObj hm rfl rfl rfl rfl ⟨es2', c', rfl, he, hst⟩
theorem run_setObj_map {g : Nat} {es : Array MapEntry} {c : Nat} (h : w.heap[g]? = some (.map es c)) (ob : Obj) : (setObj g ob).run P w = .ok () (setW w g ob) := by
  simp only [setObj, Sem.run, h]; rfl
theorem keyEq_bits {n : Nat} {E : Nat → Ent} {ck : CK} {x y : AV} (h : keyEq ck x y = some true) {u v : Value} (hu : VR G n E x u) (hv : VR G n E y v) : Instr.sameBits 10000 v u = true ∧ v = u := by
  cases ck <;> cases x <;> cases y <;> simp only [keyEq, reduceCtorEq] at h
  · split at h
    · rename_i hk; subst hk
      simp at h
      subst h
      rw [show u = _ from hu, show v = _ from hv]
      exact ⟨by simp [Instr.sameBits], rfl⟩
    · cases h
  · simp at h
    subst h
    rw [show u = _ from hu, show v = _ from hv]
    exact ⟨by simp [Instr.sameBits], rfl⟩
  · simp at h
    subst h
    rw [show u = _ from hu, show v = _ from hv]
    refine ⟨?_, rfl⟩
    rename_i p
    show ((⟨⟨p⟩⟩ : ByteArray) == ⟨⟨p⟩⟩) = true
    show ((⟨p⟩ : Array UInt8) == ⟨p⟩) = true
    simp
theorem borns_set {es : List MapEntry} {j : Nat} {e e' : MapEntry} (h : es[j]? = some e) (he : e'.born = e.born := by rfl) : (es.set j e').map (·.born) = es.map (·.born) := by
  apply List.ext_getElem?
  intro i
  rw [List.getElem?_map, List.getElem?_map, List.getElem?_set]
  by_cases hi : j = i
  · subst hi
    rw [if_pos rfl, if_pos (List.getElem?_eq_some_iff.1 h).1, h]; simp [he]
  · rw [if_neg hi]
theorem borns_erase {es : List MapEntry} {j : Nat} : (es.eraseIdx j).map (·.born) = (es.map (·.born)).eraseIdx j := by
  induction es generalizing j with
  | nil => simp
  | cons e es ih => cases j with
    | zero => rfl
    | succ j => simp [ih]
theorem modify_set {es : Array MapEntry} {j : Nat} {ee : MapEntry} (g3 : es.toList[j]? = some ee) (f : MapEntry → MapEntry) : (es.modify j f).toList = es.toList.set j (f ee) := by
  rw [Array.toList_modify]
  apply List.ext_getElem?
  intro q
  rw [List.getElem?_modify, List.getElem?_set]
  by_cases hq : j = q
  · subst hq
    rw [if_pos rfl, if_pos (List.getElem?_eq_some_iff.1 g3).1, g3]; simp
  · rw [if_neg hq]; simp [hq]
theorem s_mset (t : TypeId) (m k x : Operand) (hop : o.op = .mapUpdate t m k x ∨ o.op = .insert t m k x) {kt e : TypeId} (ht : P.underlying t = some (.map kt e)) {ck : CK} (hck : ckT P kt = some ck)
    (hc : withs G (.w (.mset ck)) [m, k, x] = some (opc, args)) (he : EnvR G H.next E env a) (h : HRel G B w0 E H w) (hs : osem C opc (args.map env.ev) H = some (v, H')) :
    Out P G B w0 E H w (execOp a.eval o) v H' := by
  obtain ⟨h1, rfl⟩ := withs_eq hc
  have hv := opds_VRs he h1
  obtain ⟨a1, r1, e1, q1, hv⟩ := hv.inv_cons
  obtain ⟨a2, r2, rfl, q2, hv⟩ := hv.inv_cons
  obtain ⟨a3, r3, rfl, q3, hv⟩ := hv.inv_cons
  obtain rfl := hv.inv_nil
  rw [e1] at hs
  simp only [osem] at hs
  cases a1 <;> simp only [wsem, reduceCtorEq] at hs
  rename_i mo
  cases mo with
  | none => simp at hs
  | some b =>
    simp only at hs
    obtain ⟨d, hd, hdk⟩ := ckT_desc hck
    cases hb : H.blk b with
    | none => simp [hb] at hs
    | some ob =>
      cases ob with
      | row f cs => simp [hb] at hs
      | sit s p => simp [hb] at hs
      | mit i c d l => simp [hb] at hs
      | dq t => simp [hb] at hs
      | map own es st =>
        cases own with
        | false => simp [hb] at hs
        | true =>
          simp only [hb] at hs
          split at hs
          · obtain ⟨k1, k2, k3, es', clock, k4, k5, k6⟩ := h.map b true es st hb
            have hex : ∀ w', (Instr.mapUpdate t (a.eval m) (a.eval k) (a.eval x)).run P w = .ok () w' → (execOp a.eval o).run P w = .ok .skip w' := by
              intro w' hr
              rcases hop with hop | hop <;> simp [execOp, hop, hr]
            cases hf : findK ck a2 es 0 with
            | none => simp [hf] at hs
            | some r =>
              rcases findK_now hdk q2 k5 hf with ⟨rfl, g1⟩ | ⟨j, xx, zz, rfl, g1, g2, ee, g3, g4, g5, g6⟩
              · simp only [hf, Option.some.injEq, Prod.mk.injEq] at hs
                obtain ⟨rfl, rfl⟩ := hs
                refine ⟨Go.undef, setW w (E b).g (.map (es'.push { key := a.eval k, val := a.eval x, born := clock }) (clock + 1)), E, .inr ⟨hex _ ?_, rfl⟩, trivial, Nat.le_refl _, Ext.refl _ _, ?_⟩
                · simp [Instr.mapUpdate, run_underlying ht, q1.2, run_getObj_map k4, run_checkKey hd hdk, Instr.findKey, run_underlying hd, g1, run_setObj_map k4]
                · exact h.setMap hb (by simpa using EntsR.snoc q2 q3 k5) (by rw [k6]; simp)
              · simp only [hf, Option.some.injEq, Prod.mk.injEq] at hs
                obtain ⟨rfl, rfl⟩ := hs
                obtain ⟨b1, b2⟩ := keyEq_bits g2 q2 g5
                have g3' : es'[j]? = some ee := by rw [← Array.getElem?_toList]; exact g3
                refine ⟨Go.undef, setW w (E b).g (.map (es'.modify j fun e => { e with key := a.eval k, val := a.eval x }) clock), E, .inr ⟨hex _ ?_, rfl⟩, trivial, Nat.le_refl _, Ext.refl _ _, ?_⟩
                · simp [Instr.mapUpdate, run_underlying ht, q1.2, run_getObj_map k4, run_checkKey hd hdk, Instr.findKey, run_underlying hd, g4, run_setObj_map k4, g3', Instr.keyThatStays, b1]
                · have hmod : (es'.modify j fun e => { e with key := a.eval k, val := a.eval x }).toList = es'.toList.set j { ee with key := a.eval k, val := a.eval x } := by
                    rw [Array.toList_modify]
                    apply List.ext_getElem?
                    intro q
                    rw [List.getElem?_modify, List.getElem?_set]
                    by_cases hq : j = q
                    · subst hq
                      rw [if_pos rfl, if_pos (List.getElem?_eq_some_iff.1 g3).1, g3]; simp
                    · rw [if_neg hq]; simp [hq]
                  refine h.setMap hb ?_ ?_
                  · rw [hmod, Nat.zero_add]
                    exact EntsR.set (e := { ee with key := a.eval k, val := a.eval x }) q2 q3 k5 j
                  · rw [k6, hmod]
                    rw [borns_set g3]
          · cases hs
theorem s_mdel (c : Call) (hop : o.op = .call c) (hcal : c.callee = .builtin .delete) {t : TypeId} {ts : List TypeId} {x y : Operand} {xs : List Operand} (hts : c.argTypes.toList = t :: ts) (hxs : c.args.toList = x :: y :: xs)
    {kt e : TypeId} (ht : P.underlying t = some (.map kt e)) {ck : CK} (hck : ckT P kt = some ck)
    (hc : with2 G (.w (.mdel ck)) x y = some (opc, args)) (he : EnvR G H.next E env a) (h : HRel G B w0 E H w) (hs : osem C opc (args.map env.ev) H = some (v, H')) :
    Out P G B w0 E H w (execOp a.eval o) v H' := by
  obtain ⟨x', y', h1, h2, rfl, rfl⟩ := with2_eq hc
  have v1 := opd_VR he h1
  have v2 := opd_VR he h2
  simp only [List.map_cons, List.map_nil, osem] at hs
  cases e1 : env.ev x' <;> rw [e1] at hs v1 <;> simp only [wsem, reduceCtorEq] at hs
  rename_i mo
  cases mo with
  | none => simp at hs
  | some b =>
    simp only at hs
    obtain ⟨d, hd, hdk⟩ := ckT_desc hck
    have t0 := get0 hts
    have a1' := map_get1 (a := a) hxs
    have hex : ∀ {val : Value} {w1 : World}, (Builtin.delete_ c.argTypes o.type (c.args.map a.eval)).run P w = .ok val w1 → (execOp a.eval o).run P w = .ok (.value val) w1 := by
      intro val w1 hr
      rw [exec_builtin hop hcal]
      simp [builtin, hr]
    cases hb : H.blk b with
    | none => simp [hb] at hs
    | some ob =>
      cases ob with
      | row f cs => simp [hb] at hs
      | sit s p => simp [hb] at hs
      | mit i c d l => simp [hb] at hs
      | dq t => simp [hb] at hs
      | map own es st =>
        cases own with
        | false => simp [hb] at hs
        | true =>
          simp only [hb] at hs
          split at hs
          · obtain ⟨k1, k2, k3, es', clock, k4, k5, k6⟩ := h.map b true es st hb
            cases hf : findK ck (env.ev y') es 0 with
            | none => simp [hf] at hs
            | some r =>
              rcases findK_now hdk v2 k5 hf with ⟨rfl, g1⟩ | ⟨j, xx, zz, rfl, g1, g2, ee, g3, g4, g5, g6⟩
              · simp only [hf, Option.some.injEq, Prod.mk.injEq] at hs
                obtain ⟨rfl, rfl⟩ := hs
                refine ⟨.tuple #[], setW w (E b).g (.map es' clock), E, .inl (hex ?_), trivial, Nat.le_refl _, Ext.refl _ _, h.setMap hb k5 k6⟩
                simp [Builtin.delete_, t0, map_get0 (a := a) hxs, a1', run_underlying ht, v1.2, run_getObj_map k4, run_checkKey hd hdk, Instr.findKey, run_underlying hd, g1, run_setObj_map k4]
              · simp only [hf, Option.some.injEq, Prod.mk.injEq] at hs
                obtain ⟨rfl, rfl⟩ := hs
                refine ⟨.tuple #[], setW w (E b).g (.map (es'.eraseIdxIfInBounds j) clock), E, .inl (hex ?_), trivial, Nat.le_refl _, Ext.refl _ _, h.setMap hb ?_ ?_⟩
                · simp [Builtin.delete_, t0, map_get0 (a := a) hxs, a1', run_underlying ht, v1.2, run_getObj_map k4, run_checkKey hd hdk, Instr.findKey, run_underlying hd, g4, run_setObj_map k4]
                · have hj : j < es'.size := by have := (List.getElem?_eq_some_iff.1 g3).1; simpa using this
                  have : (es'.eraseIdxIfInBounds j).toList = es'.toList.eraseIdx j := by
                    unfold Array.eraseIdxIfInBounds
                    rw [dif_pos hj]; simp
                  rw [this, Nat.zero_add]
                  exact EntsR.eraseIdx k5 j
                · have hj : j < es'.size := by have := (List.getElem?_eq_some_iff.1 g3).1; simpa using this
                  have : (es'.eraseIdxIfInBounds j).toList = es'.toList.eraseIdx j := by
                    unfold Array.eraseIdxIfInBounds
                    rw [dif_pos hj]; simp
                  rw [k6, this, Nat.zero_add, borns_erase]
          · cases hs
/-! ### An entry that is changed in its place -/
theorem s_ment (t : TypeId) (m k : Operand) (hop : o.op = .mapEntry t m k) {kt e : TypeId} (ht : P.underlying t = some (.map kt e)) {z : AV} (hz : zeroOf P e = some z) {ck : CK} (hck : ckT P kt = some ck)
    (hc : with2 G (.w (.ment ck z)) m k = some (opc, args)) (he : EnvR G H.next E env a) (h : HRel G B w0 E H w) (hs : osem C opc (args.map env.ev) H = some (v, H')) :
    Out P G B w0 E H w (execOp a.eval o) v H' := by
  obtain ⟨x', y', h1, h2, rfl, rfl⟩ := with2_eq hc
  have v1 := opd_VR he h1
  have v2 := opd_VR he h2
  obtain ⟨iz, zv, i1, i2, i3⟩ := zero_info hz
  have hzv : VR G H.next E z zv := ofValue_VR i3
  simp only [List.map_cons, List.map_nil, osem] at hs
  cases e1 : env.ev x' <;> rw [e1] at hs v1 <;> simp only [wsem, reduceCtorEq] at hs
  rename_i mo
  cases mo with
  | none => simp at hs
  | some b =>
    simp only at hs
    obtain ⟨d, hd, hdk⟩ := ckT_desc hck
    have hex : ∀ {val : Value} {w1 : World}, (Instr.mapEntry t (a.eval m) (a.eval k)).run P w = .ok val w1 → (execOp a.eval o).run P w = .ok (.value val) w1 := by
      intro val w1 hr
      simp [execOp, hop, hr]
    cases hb : H.blk b with
    | none => simp [hb] at hs
    | some ob =>
      cases ob with
      | row f cs => simp [hb] at hs
      | sit s p => simp [hb] at hs
      | mit i c d l => simp [hb] at hs
      | dq t => simp [hb] at hs
      | map own es st =>
        cases own with
        | false => simp [hb] at hs
        | true =>
          simp only [hb] at hs
          split at hs
          · obtain ⟨k1, k2, k3, es', clock, k4, k5, k6⟩ := h.map b true es st hb
            have hz0 : ∀ w' : World, (zeroValue e).run P w' = .ok zv w' := fun w' => by simp [zeroValue, typeInfo, i1, i2]
            cases hf : findK ck (env.ev y') es 0 with
            | none => simp [hf] at hs
            | some r =>
              rcases findK_now hdk v2 k5 hf with ⟨rfl, g1⟩ | ⟨j, xx, zz, rfl, g1, g2, ee, g3, g4, g5, g6⟩
              · simp only [hf, Option.some.injEq, Prod.mk.injEq] at hs
                obtain ⟨rfl, rfl⟩ := hs
                refine ⟨.tuple #[zv, .int .i64 clock], setW w (E b).g (.map (es'.push { key := a.eval k, val := zv, born := clock }) (clock + 1)), E, .inl (hex ?_), ⟨_, rfl, ⟨_, _, rfl, hzv, _, _, rfl, by rw [k6]; rfl, rfl⟩⟩, Nat.le_refl _, Ext.refl _ _, h.setMap hb (by simpa using EntsR.snoc v2 hzv k5) (by rw [k6]; simp)⟩
                simp [Instr.mapEntry, run_underlying ht, v1.2, run_getObj_map k4, run_checkKey hd hdk, Instr.findKey, run_underlying hd, g1, run_setObj_map k4, hz0, goInt]
              · simp only [hf, Nat.zero_add] at hs
                have g3' : es'[j]? = some ee := by rw [← Array.getElem?_toList]; exact g3
                have hst : st.1[j]? = some ee.born := by rw [k6]; simp [g3']
                rw [hst] at hs
                simp only [Option.some.injEq, Prod.mk.injEq] at hs
                obtain ⟨rfl, rfl⟩ := hs
                obtain ⟨b1, b2⟩ := keyEq_bits g2 v2 g5
                refine ⟨.tuple #[ee.val, .int .i64 ee.born], setW w (E b).g (.map (es'.modify j fun e => { e with key := a.eval k }) clock), E, .inl (hex ?_), ⟨_, rfl, ⟨_, _, rfl, g6, _, _, rfl, rfl, rfl⟩⟩, Nat.le_refl _, Ext.refl _ _, ?_⟩
                · simp [Instr.mapEntry, run_underlying ht, v1.2, run_getObj_map k4, run_checkKey hd hdk, Instr.findKey, run_underlying hd, g4, run_setObj_map k4, g3', Instr.keyThatStays, b1, goInt]
                · have hmod := modify_set g3 (fun e => { e with key := a.eval k })
                  have hsame : H = H.setMap b es st := by
                    have : upd H.blk b (some (.map true es st)) = H.blk := by funext q; unfold upd; split <;> simp_all
                    simp [AHeap.setMap, AHeap.setObj, this]
                  rw [hsame]
                  refine h.setMap hb ?_ ?_
                  · rw [hmod]
                    have := EntsR.set (e := { ee with key := a.eval k }) (k := zz) (v := xx) (by show VR G H.next E zz (a.eval k); rw [← b2]; exact g5) g6 k5 j
                    rwa [set_same g1] at this
                  · rw [hmod, borns_set g3]; exact k6
          · cases hs
theorem s_mst (t : TypeId) (m s x : Operand) (hop : o.op = .entryStore t m s x)
    (hc : withs G (.w .mst) [m, s, x] = some (opc, args)) (he : EnvR G H.next E env a) (h : HRel G B w0 E H w) (hs : osem C opc (args.map env.ev) H = some (v, H')) :
    Out P G B w0 E H w (execOp a.eval o) v H' := by
  obtain ⟨h1, rfl⟩ := withs_eq hc
  have hv := opds_VRs he h1
  obtain ⟨a1, r1, e1, q1, hv⟩ := hv.inv_cons
  obtain ⟨a2, r2, rfl, q2, hv⟩ := hv.inv_cons
  obtain ⟨a3, r3, rfl, q3, hv⟩ := hv.inv_cons
  obtain rfl := hv.inv_nil
  rw [e1] at hs
  simp only [osem] at hs
  cases a1 <;> simp only [wsem, reduceCtorEq] at hs
  rename_i mo
  cases mo with
  | none => simp at hs
  | some b =>
    cases a2 <;> simp only [reduceCtorEq] at hs
    rename_i ik bn
    cases hb : H.blk b with
    | none => simp [hb] at hs
    | some ob =>
      cases ob with
      | row f cs => simp [hb] at hs
      | sit s p => simp [hb] at hs
      | mit i c d l => simp [hb] at hs
      | dq t => simp [hb] at hs
      | map own es st =>
        cases own with
        | false => simp [hb] at hs
        | true =>
          simp only [hb] at hs
          obtain ⟨k1, k2, k3, es', clock, k4, k5, k6⟩ := h.map b true es st hb
          cases hf : st.1.findIdx? (fun (c : Nat) => ((c : Nat) : Int) == bn) with
          | none => simp [hf] at hs
          | some j =>
            simp only [hf] at hs
            cases hj : es[j]? with
            | none => simp [hj] at hs
            | some kv =>
              obtain ⟨kk, vv⟩ := kv
              simp only [hj, Option.some.injEq, Prod.mk.injEq] at hs
              obtain ⟨rfl, rfl⟩ := hs
              obtain ⟨ee, g3, g5, g6⟩ := k5.get hj
              have g3' : es'[j]? = some ee := by rw [← Array.getElem?_toList]; exact g3
              have hfi : es'.findIdx? (fun e => (e.born : Int) == bn) = some j := by
                rw [← hf, k6]
                have e2 : es' = es'.toList.toArray := by simp
                rw [e2, List.findIdx?_toArray, List.findIdx?_map]
                simp only [List.toList_toArray]
                rfl
              refine ⟨Go.undef, setW w (E b).g (.map (es'.modify j fun e => { e with val := a.eval x }) clock), E, .inr ⟨?_, rfl⟩, trivial, Nat.le_refl _, Ext.refl _ _, ?_⟩
              · have hr : (Instr.entryStore t (a.eval m) (a.eval s) (a.eval x)).run P w = .ok () (setW w (E b).g (.map (es'.modify j fun e => { e with val := a.eval x }) clock)) := by
                  simp [Instr.entryStore, q1.2, run_getObj_map k4, show a.eval s = _ from q2, asInt, asIntOf, hfi, run_setObj_map k4]
                simp [execOp, hop, hr]
              · have hmod := modify_set g3 (fun e => { e with val := a.eval x })
                refine h.setMap hb ?_ ?_
                · rw [hmod]
                  exact EntsR.set (e := { ee with val := a.eval x }) g5 q3 k5 j
                · rw [hmod, borns_set g3]; exact k6
/-! ### A range over a string -/
theorem s_rngS (t : TypeId) (x : Operand) (hop : o.op = .range t x) (ht : P.underlying t = some .string)
    (hc : with1 G (.w .rngS) x = some (opc, args)) (he : EnvR G H.next E env a) (h : HRel G B w0 E H w) (hs : osem C opc (args.map env.ev) H = some (v, H')) :
    Out P G B w0 E H w (execOp a.eval o) v H' := by
  obtain ⟨x', h1, rfl, rfl⟩ := with1_eq hc
  have v1 := opd_VR he h1
  simp only [List.map_cons, List.map_nil, osem] at hs
  cases e1 : env.ev x' <;> rw [e1] at hs v1 <;> simp only [wsem, reduceCtorEq, Option.some.injEq, Prod.mk.injEq] at hs
  rename_i s
  obtain ⟨rfl, rfl⟩ := hs
  refine ⟨.pointer (some ⟨w.heap.size, 0, none⟩), _, _, .inl ?_, ⟨by show H.next < H.next + 1; omega, by rw [upd_same]⟩, by show H.next ≤ H.next + 1; omega, ext_upd _ _ _, h.newObj rfl rfl (x := .stringIter ⟨⟨s⟩⟩ 0) ⟨rfl, rfl⟩⟩
  have hnew : (newObj (.stringIter ⟨⟨s⟩⟩ 0)).run P w = .ok w.heap.size (w.alloc (.stringIter ⟨⟨s⟩⟩ 0)) := by simp only [newObj, Sem.run]; rfl
  simp [execOp, hop, Instr.range, run_underlying ht, show a.eval x = _ from v1, hnew]
theorem s_nxtS (x : Operand) (hop : o.op = .next x true)
    (hc : with1 G (.w .nxtS) x = some (opc, args)) (he : EnvR G H.next E env a) (h : HRel G B w0 E H w) (hs : osem C opc (args.map env.ev) H = some (v, H')) :
    Out P G B w0 E H w (execOp a.eval o) v H' := by
  obtain ⟨x', h1, rfl, rfl⟩ := with1_eq hc
  have v1 := opd_VR he h1
  simp only [List.map_cons, List.map_nil, osem] at hs
  cases e1 : env.ev x' <;> rw [e1] at hs v1 <;> simp only [wsem, reduceCtorEq] at hs
  rename_i p
  cases p with
  | none => simp at hs
  | some p =>
    obtain ⟨b, off⟩ := p
    cases off with
    | succ n => simp at hs
    | zero =>
      simp only at hs
      cases hb : H.blk b with
      | none => simp [hb] at hs
      | some ob =>
        cases ob with
        | row f cs => simp [hb] at hs
        | map own es st => simp [hb] at hs
        | mit i c d l => simp [hb] at hs
        | dq t => simp [hb] at hs
        | sit s pos =>
          simp only [hb] at hs
          obtain ⟨k1, k2, k3, xo, k4, k5⟩ := h.obj b _ hb rfl
          obtain ⟨k6, rfl⟩ := k5
          have hsz : (⟨⟨s⟩⟩ : ByteArray).size = s.length := rfl
          have hptr : a.eval x = .pointer (some ⟨(E b).g, 0, none⟩) := by have := v1.2; rw [k6] at this; exact this
          have hget : (getObj (E b).g).run P w = .ok (.stringIter ⟨⟨s⟩⟩ pos) w := by simp only [getObj, Sem.run, k4]
          have hex : ∀ {val : Value} {w1 : World}, (Instr.next (.pointer (some ⟨(E b).g, 0, none⟩)) true o.type).run P w = .ok val w1 → (execOp a.eval o).run P w = .ok (.value val) w1 := by
            intro val w1 hr
            simp [execOp, hop, hptr, hr]
          by_cases hp : pos < s.length
          · rw [if_pos hp] at hs
            simp only [Option.some.injEq, Prod.mk.injEq] at hs
            obtain ⟨rfl, rfl⟩ := hs
            have hset : ∀ ob, (setObj (E b).g ob).run P w = .ok () (setW w (E b).g ob) := fun ob => by simp only [setObj, Sem.run, k4]; rfl
            refine ⟨.tuple #[.bool true, .int .i64 pos, .int .i32 (Utf8.decode ⟨⟨s⟩⟩ pos).1], setW w (E b).g (.stringIter ⟨⟨s⟩⟩ (pos + (Utf8.decode ⟨⟨s⟩⟩ pos).2)), E, .inl (hex ?_), ⟨_, rfl, ⟨_, _, rfl, rfl, _, _, rfl, rfl, _, _, rfl, rfl, rfl⟩⟩, Nat.le_refl _, Ext.refl _ _, h.setObj hb rfl rfl rfl rfl ⟨k6, rfl⟩⟩
            simp [Instr.next, hget, hsz, hp, hset, goInt]
          · rw [if_neg hp] at hs
            simp only [Option.some.injEq, Prod.mk.injEq] at hs
            obtain ⟨rfl, rfl⟩ := hs
            refine ⟨.tuple #[.bool false], w, E, .inl (hex ?_), ⟨_, rfl, ⟨_, _, rfl, rfl, rfl⟩⟩, Nat.le_refl _, Ext.refl _ _, h⟩
            simp [Instr.next, hget, hsz, hp]
/-- Entries and what they are in the model. -/
def EntR (G : Nat → Nat) (n : Nat) (E : Nat → Ent) (x : Nat × AV × AV) (e : MapEntry) : Prop := x.1 = e.born ∧ VR G n E x.2.1 e.key ∧ VR G n E x.2.2 e.val
def EntsB (G : Nat → Nat) (n : Nat) (E : Nat → Ent) : List (Nat × AV × AV) → List MapEntry → Prop
  | [], es => es = []
  | x :: r, es => ∃ e es', es = e :: es' ∧ EntR G n E x e ∧ EntsB G n E r es'
theorem EntsB.of {n : Nat} : ∀ {as : List (AV × AV)} {es : List MapEntry}, EntsR G n E as es → EntsB G n E ((es.map (·.born)).zip as) es
  | [], es, h => by have : es = [] := h; subst this; rfl
  | (k, v) :: r, es, h => by
    obtain ⟨e, es', rfl, h1, h2, h3⟩ := h
    exact ⟨e, es', rfl, ⟨rfl, h1, h2⟩, EntsB.of h3⟩
theorem EntsB.filter {n : Nat} {p : Nat → Bool} : ∀ {as : List (Nat × AV × AV)} {es : List MapEntry}, EntsB G n E as es → EntsB G n E (as.filter fun x => p x.1) (es.filter fun e => p e.born)
  | [], es, h => by have : es = [] := h; subst this; rfl
  | x :: r, es, h => by
    obtain ⟨e, es', rfl, h1, h2⟩ := h
    have ih := EntsB.filter (p := p) h2
    rw [List.filter_cons, List.filter_cons, h1.1]
    split
    · exact ⟨e, _, rfl, h1, ih⟩
    · exact ih
theorem EntsB.append {n : Nat} : ∀ {as bs : List (Nat × AV × AV)} {es fs : List MapEntry}, EntsB G n E as es → EntsB G n E bs fs → EntsB G n E (as ++ bs) (es ++ fs)
  | [], bs, es, fs, h, k => by have : es = [] := h; subst this; exact k
  | x :: r, bs, es, fs, h, k => by
    obtain ⟨e, es', rfl, h1, h2⟩ := h
    exact ⟨e, _, rfl, h1, EntsB.append h2 k⟩
theorem EntsB.len {n : Nat} : ∀ {as : List (Nat × AV × AV)} {es : List MapEntry}, EntsB G n E as es → as.length = es.length
  | [], es, h => by have : es = [] := h; subst this; rfl
  | x :: r, es, h => by
    obtain ⟨e, es', rfl, h1, h2⟩ := h
    simp [EntsB.len h2]
theorem EntsB.get {n : Nat} : ∀ {as : List (Nat × AV × AV)} {es : List MapEntry} {i : Nat} {x : Nat × AV × AV}, EntsB G n E as es → as[i]? = some x → ∃ e, es[i]? = some e ∧ EntR G n E x e
  | [], es, i, x, h, hi => by simp at hi
  | y :: r, es, i, x, h, hi => by
    obtain ⟨e, es', rfl, h1, h2⟩ := h
    cases i with
    | zero => simp at hi; subst hi; exact ⟨e, rfl, h1⟩
    | succ i => simpa using EntsB.get h2 (by simpa using hi)
theorem EntsB.find {n : Nat} {p : Nat → Bool} : ∀ {as : List (Nat × AV × AV)} {es : List MapEntry} {x : Nat × AV × AV}, EntsB G n E as es → as.find? (fun x => p x.1) = some x → ∃ e, es.find? (fun e => p e.born) = some e ∧ EntR G n E x e
  | [], es, x, h, hi => by simp at hi
  | y :: r, es, x, h, hi => by
    obtain ⟨e, es', rfl, h1, h2⟩ := h
    rw [List.find?_cons] at hi ⊢
    rw [h1.1] at hi
    cases hp : p e.born with
    | true => rw [hp] at hi; simp at hi; subst hi; exact ⟨e, rfl, h1⟩
    | false => rw [hp] at hi; exact EntsB.find h2 hi
theorem s_ent (x : Operand) (hop : o.op = .entry x)
    (hc : with1 G (.r .ent) x = some (opc, args)) (he : EnvR G H.next E env a) (h : HRel G B w0 E H w) (hs : osem C opc (args.map env.ev) H = some (v, H')) :
    Out P G B w0 E H w (execOp a.eval o) v H' := by
  obtain ⟨x', h1, rfl, rfl⟩ := with1_eq hc
  have v1 := opd_VR he h1
  simp only [List.map_cons, List.map_nil, osem] at hs
  cases hre : rsem .ent [env.ev x'] H with
  | none => simp [hre] at hs
  | some vr =>
    simp only [hre, Option.some.injEq, Prod.mk.injEq] at hs
    obtain ⟨rfl, rfl⟩ := hs
    cases e1 : env.ev x' <;> rw [e1] at hre v1 <;> simp only [rsem, reduceCtorEq] at hre
    rename_i p
    cases p with
    | none => simp at hre
    | some p =>
      obtain ⟨b, off⟩ := p
      cases off with
      | succ k => simp at hre
      | zero =>
        simp only at hre
        cases hb : H.blk b with
        | none => simp [hb] at hre
        | some ob =>
          cases ob with
          | row f cs => simp [hb] at hre
          | dq t => simp [hb] at hre
          | map own es st => simp [hb] at hre
          | sit s pos => simp [hb] at hre
          | mit mo since seen last =>
            cases mo with
            | none => simp [hb] at hre
            | some m =>
              simp only [hb] at hre
              obtain ⟨k1, k2, k3, xo, k4, k5⟩ := h.obj b _ hb rfl
              obtain ⟨k6, k7, rfl⟩ := k5
              have hptr : a.eval x = .pointer (some ⟨(E b).g, 0, none⟩) := by have := v1.2; rw [k6] at this; exact this
              have hget : (getObj (E b).g).run P w = .ok (.mapIter (some (E m).g) since seen.toArray last) w := by
                have : w.heap[(E b).g]? = some (.mapIter (some (E m).g) since seen.toArray last) := k4
                simp only [getObj, Sem.run, this]
              cases hl : seen.getLast? with
              | none => simp [hl] at hre
              | some i =>
                cases hm : H.blk m with
                | none => simp [hl, hm] at hre
                | some om =>
                  cases om with
                  | row f cs => simp [hl, hm] at hre
                  | sit s pos => simp [hl, hm] at hre
                  | mit i c d l => simp [hl, hm] at hre
                  | dq t => simp [hl, hm] at hre
                  | map own es st =>
                    simp only [hl, hm] at hre
                    obtain ⟨m1, m2, m3, es', clock, m4, m5, m6⟩ := h.map m own es st hm
                    subst m6
                    have hgm : (getObj (E m).g).run P w = .ok (.map es' clock) w := by simp only [getObj, Sem.run, m4]
                    split at hre
                    · rename_i hclk
                      have hclk : clock = last := hclk
                      subst hclk
                      split at hre
                      · rename_i e hf
                        simp only [Option.some.injEq] at hre
                        subst hre
                        obtain ⟨e', f1, f2, f3, f4⟩ := (EntsB.of m5).find (p := fun c => c == i) hf
                        refine ⟨.tuple #[e'.key, e'.val], w, E, .inl ?_, ⟨_, rfl, ⟨_, _, rfl, f3, _, _, rfl, f4, rfl⟩⟩, Nat.le_refl _, Ext.refl _ _, h⟩
                        have hback : seen.toArray.back? = some i := by simpa using hl
                        have hfind : es'.find? (fun x => x.born == i) = some e' := by rw [← Array.find?_toList]; exact f1
                        simp [execOp, hop, hptr, Instr.entry, hget, hgm, hback, hfind]
                      · cases hre
                    · cases hre
end
end Go.Am

/- Operations that look at the type of a row's block: pointers that become unsafe and come back, bytes that become a string in their place. -/
set_option linter.unusedVariables false
set_option linter.unusedSimpArgs false
namespace Go.Am
open Go.RowKit
variable {G : Nat → Nat} {P : Program}
section
variable {B : Prot} {w0 : Base} {w : World} {E : Nat → Ent} {H : AHeap}
variable {C : CallF} {o : Oper} {opc : AOpc} {args : List AOpd} {env : Env} {a : Act} {v : AV} {H' : AHeap}
theorem HRel.tagged (h : HRel G B w0 E H w) {b t : Nat} (hb : b < H.next) (ho : (E b).o = 0) (hty : ∃ cs fz, w.heap[(E b).g]? = some (.cells cs t fz)) : HRel G B w0 E (H.tag b t) w :=
  ⟨h.below, h.size, h.row, h.glt, h.sep, h.fresh, h.famlt, h.obj, h.sepm, h.fix, fun c u hc => by
    have hc : upd H.typ b (some t) c = some u := hc
    by_cases e : c = b
    · subst e; rw [upd_same] at hc; cases hc; exact ⟨hb, ho, hty⟩
    · rw [upd_ne _ _ _ e] at hc; exact h.typ c u hc⟩
/-- A family's rows are given up; its block may be turned, but for its cells. -/
theorem HRel.killed (h : HRel G B w0 E H w) {b f : Nat} {cs : List AV} (hr : H.row b = some (f, cs)) (hf : (H.fam f).isSome = true) (hty : ∃ cs t fz, w.heap[(E b).g]? = some (.cells cs t fz)) (n : Nat) :
    HRel G B w0 (upd E H.next (E b)) (H.kill f) (w.freeze ⟨(E b).g, 0, none⟩ n) := by
  have hE : Ext H.next E (upd E H.next (E b)) := ext_upd _ _ _
  have hgE : ∀ c, c < H.next → upd E H.next (E b) c = E c := fun c hc => upd_ne _ _ _ (by omega)
  have hbr := h.row b f cs hr
  rw [hf] at hbr
  have hB : B (E b).g = none := (hbr.own rfl).1
  have oth : ∀ k, k ≠ (E b).g → (w.freeze ⟨(E b).g, 0, none⟩ n).heap[k]? = w.heap[k]? := by
    intro k hk
    unfold World.freeze
    split
    · rfl
    · show (w.heap.modify _ _)[k]? = _
      rw [Array.getElem?_modify, if_neg (Ne.symm hk)]
  have hsz : (w.freeze ⟨(E b).g, 0, none⟩ n).heap.size = w.heap.size := by
    unfold World.freeze
    split
    · rfl
    · show (w.heap.modify _ _).size = _
      rw [Array.size_modify]
  have at_ : ∀ cs t fz, w.heap[(E b).g]? = some (.cells cs t fz) → ∃ fz', (w.freeze ⟨(E b).g, 0, none⟩ n).heap[(E b).g]? = some (.cells cs t fz') := by
    intro cs t fz hk
    unfold World.freeze
    split
    · exact ⟨fz, hk⟩
    · show ∃ fz', (w.heap.modify _ _)[(E b).g]? = some (.cells cs t fz')
      rw [Array.getElem?_modify, if_pos rfl, hk]
      obtain ⟨lo, hi⟩ := fz
      exact ⟨_, rfl⟩
  have row' : ∀ c f' cs', (H.kill f).row c = some (f', cs') → H.row c = some (f', cs') ∧ f' ≠ f ∧ (H.kill f).fam f' = H.fam f' := by
    intro c f' cs' hc
    have hb := row_blk hc
    have hb' : H.blk c = some (.row f' cs') := hb
    have hlt := h.blk_lt hb'
    have ne : f' ≠ f := by
      intro e
      subst e
      simp only [AHeap.row, hb] at hc
      have : (H.kill f').fam f' = some (H.next, none) := upd_same _ _ _
      rw [this] at hc
      simp only at hc
      rw [if_neg (by simp; omega)] at hc
      cases hc
    have fe : (H.kill f).fam f' = H.fam f' := upd_ne _ _ _ ne
    refine ⟨?_, ne, fe⟩
    simp only [AHeap.row, hb, fe] at hc
    simp only [AHeap.row, hb']
    exact hc
  have apart : ∀ c f' cs', (H.kill f).row c = some (f', cs') → (E c).g ≠ (E b).g := by
    intro c f' cs' hc
    obtain ⟨k1, k2, k3⟩ := row' c f' cs' hc
    cases ho : (H.fam f').isSome with
    | true => exact h.sep _ _ _ _ _ _ k1 hr ho hf k2
    | false =>
      have := (h.row c f' cs' k1)
      rw [ho] at this
      exact fun e => (this.ro rfl).1 (by rw [e]; exact hB)
  have hbl : (E b).g < w.heap.size := h.glt b hbr.lt
  refine ⟨⟨?_, ?_, ?_, by rw [hsz]; exact h.below.size, fun g ob hg => ?_⟩, fun g hg => by rw [hsz]; exact h.size g hg, ?_, ?_, ?_, ?_, ?_, ?_, ?_, ⟨Nat.le_succ_of_le h.fix.1, h.fix.2.trans hE h.fix.1⟩, h.typ1 hE ?_⟩
  · unfold World.freeze; split <;> exact h.below.os
  · unfold World.freeze; split <;> exact h.below.tape
  · unfold World.freeze; split <;> exact h.below.output
  · rw [oth g (by intro e; subst e; rw [hB] at hg; cases hg)]; exact h.below.block g ob hg
  · intro c f' cs' hc
    obtain ⟨k1, k2, k3⟩ := row' c f' cs' hc
    rw [k3]
    have ne := apart c f' cs' hc
    exact (h.row c f' cs' k1).mono (Nat.le_succ _) hE fun i => ⟨World.cell?_of_block (oth _ ne), World.frozen?_of_block (oth _ ne)⟩
  · intro c hc
    have hc : c < H.next + 1 := hc
    rw [hsz]
    by_cases e : c = H.next
    · subst e; rw [upd_same]; exact hbl
    · rw [hgE c (by omega)]; exact h.glt c (by omega)
  · intro c f1 cs1 d f2 cs2 hc hd o1 o2 hne
    obtain ⟨k1, k2, k3⟩ := row' c f1 cs1 hc
    obtain ⟨j1, j2, j3⟩ := row' d f2 cs2 hd
    rw [k3] at o1
    rw [j3] at o2
    rw [hgE c (h.blk_lt (row_blk k1)), hgE d (h.blk_lt (row_blk j1))]
    exact h.sep _ _ _ _ _ _ k1 j1 o1 o2 hne
  · intro c hc
    have hc : H.next + 1 ≤ c := hc
    exact h.fresh c (by omega)
  · intro c f1 cs1 hc
    have := h.famlt c f1 cs1 hc
    show f1 < H.next + 1
    omega
  · intro m ob hm ho
    obtain ⟨k1, k2, k3, x, k4, k5⟩ := h.obj m ob hm ho
    rw [hgE m k1]
    have ne : (E m).g ≠ (E b).g := by
      intro e
      obtain ⟨cs0, t0, fz0, hc0⟩ := hty
      rw [e, hc0] at k4
      exact k5.noCells _ _ _ (Option.some.inj k4).symm
    exact ⟨Nat.lt_succ_of_lt k1, k2, k3, x, by rw [oth _ ne]; exact k4, k5.mono (Nat.le_succ _) hE⟩
  · intro m ob m' ob' hm hm' ho ho' w1 w2 hne
    have l1 := (h.obj m ob hm ho).1
    have l2 := (h.obj m' ob' hm' ho').1
    rw [hgE m l1, hgE m' l2]
    exact h.sepm m ob m' ob' hm hm' ho ho' w1 w2 hne
  · intro k cs t fz hk
    by_cases e : k = (E b).g
    · subst e
      obtain ⟨fz', h1⟩ := at_ cs t fz hk
      exact ⟨cs, fz', h1⟩
    · exact ⟨cs, fz, by rw [oth k e]; exact hk⟩
theorem liesAt_self {e : TypeId} (hc : P.cellsOf e ≠ 0) (count n : Nat) (hn : n ≤ count) : liesAt P P.depth e count 0 e n = true := by
  have hd : P.depth = (2 * (P.types.size + Made.depth) + 1) + 1 := rfl
  rw [hd]
  simp only [liesAt, Bool.or_eq_true]
  left
  rw [hd]
  simp [rowAt, hc, hn, sameLayout]
theorem cellsOf_size {t : TypeId} {m : Nat} (h : sizeT P t = some m) : P.cellsOf t = m := by
  obtain ⟨i, h1, h2⟩ := info_size h
  simp [Program.cellsOf, h1, h2]
theorem bytesS_get : ∀ {xs : List AV} {l : List UInt8}, bytesS xs = some l → l.length = xs.length ∧ ∀ (j : Nat) x, l[j]? = some x → xs[j]? = some (.int .u8 x.toNat)
  | [], l, h => by simp [bytesS] at h; subst h; exact ⟨rfl, fun j x hj => by simp at hj⟩
  | a :: xs, l, h => by
    cases a <;> try (simp [bytesS] at h; done)
    rename_i k n
    cases k <;> try (simp [bytesS] at h; done)
    simp only [bytesS] at h
    split at h
    · rename_i hn
      cases h1 : bytesS xs with
      | none => simp [h1] at h
      | some l1 =>
        simp only [h1, Option.some.injEq] at h
        subst h
        obtain ⟨k1, k2⟩ := bytesS_get h1
        refine ⟨by simp [k1], fun j x hj => ?_⟩
        cases j with
        | zero =>
          simp at hj
          subst hj
          have : (UInt8.ofNat n.toNat).toNat = n.toNat := by simp; omega
          simp only [List.getElem?_cons_zero, this]
          congr 2
          omega
        | succ j => simpa using k2 j x (by simpa using hj)
    · cases h
/-- A variable of a type that is remembered. -/
theorem s_boxT (t : TypeId) (hop : o.op = .alloc t) {z : AV} (hz : zeroOf P t = some z) (hc : some (AOpc.w (.boxT t), [AOpd.c z]) = some (opc, args)) (h : HRel G B w0 E H w) (hs : osem C opc (args.map env.ev) H = some (v, H')) :
    Out P G B w0 E H w (execOp a.eval o) v H' := by
  simp at hc
  obtain ⟨rfl, rfl⟩ := hc
  obtain ⟨i, zv, i1, i2, i3⟩ := zero_info hz
  simp only [List.map_cons, List.map_nil, osem, wsem] at hs
  split at hs
  · rename_i hcl
    simp only [Option.some.injEq, Prod.mk.injEq] at hs
    obtain ⟨rfl, rfl⟩ := hs
    have hvc := VR.cells (ofValue_VR (G := G) (n := H.next) (E := E) i3) hcl
    have h1 := h.new _ _ [] hvc zv.cells.toList.length (Nat.le_refl _) (by simp) t (0, 0) (.inr rfl)
    have h2 := h1.tagged (b := H.next) (t := t) (by show H.next < H.next + 1; omega) (by rw [upd_same]) (by rw [upd_same]; exact ⟨_, _, heap_alloc_at _ _⟩)
    refine ⟨.pointer (some ⟨w.heap.size, 0, none⟩), _, _, .inl ?_, ⟨by show H.next < H.next + 1; omega, by rw [upd_same]⟩, by show H.next ≤ H.next + 1; omega, ext_upd _ _ _, h2⟩
    simp [execOp, hop, Instr.alloc, zeroValue, typeInfo, i1, i2, Instr.box, newVar, newRow]
  · cases hs
/-- An append whose row's type is remembered. -/
theorem s_appT (c : Call) (hop : o.op = .call c) (hcal : c.callee = .builtin .append) {t u' : TypeId} {ts : List TypeId} {x y : Operand} {xs : List Operand} (hts : c.argTypes.toList = t :: u' :: ts) (hxs : c.args.toList = x :: y :: xs)
    {el : TypeId} (ht : P.underlying t = some (.slice el)) {du : TypeDesc} (hu : P.underlying u' = some du) {sz by_ : Nat} {z : AV} (hm : sizeT P el = some sz) (hb : bytesT P el = some by_) (hz : zeroOf P el = some z) (hsz : sz = z.cells.length)
    (hni : du = .string ∨ ∃ e, du = .slice e)
    (hc : with2 G (.w (.appT el sz by_)) x y = some (opc, args)) (he : EnvR G H.next E env a) (h : HRel G B w0 E H w) (hs : osem C opc (args.map env.ev) H = some (v, H')) :
    Out P G B w0 E H w (execOp a.eval o) v H' := by
  obtain ⟨x', y', h1, h2, rfl, rfl⟩ := with2_eq hc
  simp only [List.map_cons, List.map_nil, osem] at hs
  cases e1 : env.ev x' <;> rw [e1] at hs <;> simp only [wsem, reduceCtorEq] at hs
  rename_i p sv len cap
  cases hln : Am.lenOf (env.ev y') with
  | none => simp [hln] at hs
  | some m =>
    cases hcc : H.cellsOf sz (env.ev y') with
    | none => simp [hln, hcc] at hs
    | some xs' =>
      simp only [hln, hcc] at hs
      cases ha : H.app sz by_ p sv len cap m xs' with
      | none => simp [ha] at hs
      | some r =>
        obtain ⟨v1, H1⟩ := r
        simp only [ha, Option.some.injEq, Prod.mk.injEq] at hs
        obtain ⟨rfl, rfl⟩ := hs
        obtain ⟨u, w', E', r1, r2, r3, r4, r5, r6⟩ := s_app_A c hop hcal hts hxs ht hu hm hb hz hsz hni h1 h2 he h e1 hln hcc ha
        unfold AHeap.tagA
        by_cases hcond : H.next < H1.next ∧ H.typed el p = true
        · rw [if_pos hcond]
          obtain ⟨hlt, hp⟩ := hcond
          refine ⟨u, w', E', r1, r2, r3, r4, r5.tagged hlt ?_ ?_⟩
          · rcases r6 hlt with ⟨q1, q2⟩ | ⟨b, off, rfl, q0, q1, q2, q3⟩
            · exact q1
            · simp only [AHeap.typed, Bool.and_eq_true, decide_eq_true_eq] at hp
              obtain ⟨k1, k2, k3⟩ := h.typ b _ hp.2
              rw [q2, k2, hp.1]
          · rcases r6 hlt with ⟨q1, q2⟩ | ⟨b, off, rfl, q0, q1, q2, q3⟩
            · exact q2
            · simp only [AHeap.typed, Bool.and_eq_true, decide_eq_true_eq] at hp
              obtain ⟨k1, k2, cs, fz, k3⟩ := h.typ b _ hp.2
              rw [q1]
              exact q3 _ _ _ _ k3
        · rw [if_neg hcond]; exact ⟨u, w', E', r1, r2, r3, r4, r5⟩
/-- A pointer that was unsafe comes back. -/
theorem s_u2p (s d e : TypeId) (x : Operand) (hop : o.op = .convert s d x) (q1 : P.underlying s = some .unsafePointer) (q2 : P.underlying d = some (.pointer e)) {n : Nat} (q3 : sizeT P e = some n) (q4 : ¬n = 0)
    (hc : with1 G (.r (.u2p e n)) x = some (opc, args)) (he : EnvR G H.next E env a) (h : HRel G B w0 E H w) (hs : osem C opc (args.map env.ev) H = some (v, H')) :
    Out P G B w0 E H w (execOp a.eval o) v H' := by
  obtain ⟨x', h1, rfl, rfl⟩ := with1_eq hc
  obtain ⟨h2, rfl⟩ := osem_r hs
  have hv := opd_VR he h1
  simp only [List.map_cons, List.map_nil] at h2
  cases e1 : env.ev x' <;> rw [e1] at h2 hv <;> simp only [rsem, reduceCtorEq] at h2
  rename_i p
  cases p with
  | none => simp at h2
  | some p =>
    obtain ⟨b, off⟩ := p
    cases off with
    | succ k => simp at h2
    | zero =>
      simp only at h2
      split at h2
      · rename_i ht
        cases hl : H'.ld b 0 n with
        | none => simp [hl] at h2
        | some cs =>
          simp [hl] at h2
          subst h2
          obtain ⟨k1, k2, us, k3, k4⟩ := h.ld hl
          obtain ⟨t1, t2, cs0, fz0, t3⟩ := h.typ b e ht
          obtain ⟨i, i1, i2⟩ := info_size q3
          have hlen := k3.length
          have hcs : cs.length = n := by
            unfold AHeap.ld at hl
            cases hr : H'.row b with
            | none => simp [hr] at hl
            | some pr =>
              simp only [hr] at hl
              split at hl
              · rename_i hle
                simp only [Option.some.injEq] at hl
                rw [← hl, List.length_take, List.length_drop]; omega
              · cases hl
          have hsz : n ≤ cs0.size := by
            have hlast : n - 1 < us.length := by omega
            have := k4 (n - 1) us[n - 1] (List.getElem?_eq_getElem hlast)
            simp only [World.cell?, t3, t2] at this
            have := (Array.getElem?_eq_some_iff.1 this).1
            omega
          refine Out.pure h (u := .pointer (some ⟨(E b).g, (E b).o + 0, none⟩)) ?_ ⟨k2, rfl⟩
          have := Lib.run_from_unsafe (P := P) w (src := s) (dst := d) (u := e) (e := e) (j := i) (cells := cs0.size) ⟨(E b).g, (E b).o + 0, none⟩ q1 q2 i1 (by simp [World.shape?, t3]) (by
            rw [t2, cellsOf_size q3]
            refine liesAt_self (by rw [cellsOf_size q3]; exact q4) _ _ ?_
            exact (Nat.le_div_iff_mul_le (by omega)).2 (by omega))
          simp only [Nat.add_zero] at this
          have hx : a.eval x = .pointer (some ⟨(E b).g, (E b).o, none⟩) := by have := hv.2; simpa using this
          simp only [Nat.add_zero, execOp, hop, hx]
          simp [this]
      · cases h2
/-- Where a slice's cells lie. -/
theorem s_sdata (c : Call) (hop : o.op = .call c) (hcal : c.callee = .builtin .unsafeSliceData) {x : Operand} (hxs : c.args.toList = [x]) (hc : with1 G (.p .sdata) x = some (opc, args)) (he : EnvR G H.next E env a) (h : HRel G B w0 E H w) (hs : osem C opc (args.map env.ev) H = some (v, H')) :
    Out P G B w0 E H w (execOp a.eval o) v H' := by
  obtain ⟨x', h1, rfl, rfl⟩ := with1_eq hc
  obtain ⟨h2, rfl⟩ := osem_p hs
  have hv := opd_VR he h1
  simp only [List.map_cons, List.map_nil] at h2
  cases e1 : env.ev x' <;> rw [e1] at h2 hv <;> simp only [psem, reduceCtorEq] at h2
  rename_i p sz len cap
  cases p with
  | none => simp at h2
  | some p =>
    obtain ⟨b, off⟩ := p
    simp only at h2
    split at h2
    · rename_i hl
      simp only [Option.some.injEq] at h2
      subst h2
      obtain ⟨k1, ad, cc, k2, k3, k4, k5⟩ := hv
      obtain ⟨k6, _⟩ := k5 (by omega)
      have ha : c.args.map a.eval = #[.slice (some ad) len cc] := by
        apply Array.ext'
        simp [hxs, k2]
      refine Out.pure h (u := .pointer (some ⟨(E b).g, (E b).o + off, none⟩)) ?_ ⟨k1, rfl⟩
      rw [exec_builtin hop hcal, ha]
      simp only [builtin, Sem.run_bind]
      rw [Lib.run_unsafeSliceData_row _ _ _ _ _ _ (by omega)]
      simp [k6]
    · cases h2
/-- Bytes that become a string in their place. -/
theorem s_ustr (c : Call) (hop : o.op = .call c) (hcal : c.callee = .builtin .unsafeString) {t : TypeId} {ts : List TypeId} (hts : c.argTypes.toList = t :: ts) {x y : Operand} (hxs : c.args.toList = [x, y]) {e : TypeId} (ht : P.underlying t = some (.pointer e)) (hm : sizeT P e = some 1)
    (hc : with2 G (.w (.ustr e)) x y = some (opc, args)) (he : EnvR G H.next E env a) (h : HRel G B w0 E H w) (hs : osem C opc (args.map env.ev) H = some (v, H')) :
    Out P G B w0 E H w (execOp a.eval o) v H' := by
  obtain ⟨x', y', h1, h2, rfl, rfl⟩ := with2_eq hc
  have v1 := opd_VR he h1
  have v2 := opd_VR he h2
  simp only [List.map_cons, List.map_nil, osem] at hs
  cases e1 : env.ev x' <;> rw [e1] at hs v1 <;> try (simp only [wsem, reduceCtorEq] at hs; done)
  rename_i p
  cases p with
  | none => simp only [wsem, reduceCtorEq] at hs
  | some p =>
    obtain ⟨b, off⟩ := p
    cases off with
    | succ k => simp only [wsem, reduceCtorEq] at hs
    | zero =>
      cases e2 : env.ev y' <;> rw [e2] at hs v2 <;> try (simp only [wsem, reduceCtorEq] at hs; done)
      rename_i k n
      cases k <;> simp only [wsem, reduceCtorEq] at hs
      split at hs
      case isFalse => cases hs
      rename_i hc1
      obtain ⟨hn0, hty⟩ := hc1
      cases hr : H.row b with
      | none => simp [hr] at hs
      | some pr =>
        obtain ⟨f, cs⟩ := pr
        simp only [hr] at hs
        split at hs
        case isFalse => cases hs
        rename_i hc2
        obtain ⟨hf, hle, h62⟩ := hc2
        cases hb : bytesS (cs.take n.toNat) with
        | none => simp [hb] at hs
        | some l =>
          simp only [hb, Option.some.injEq, Prod.mk.injEq] at hs
          obtain ⟨rfl, rfl⟩ := hs
          obtain ⟨t1, t2, cs0, fz0, t3⟩ := h.typ b e hty
          have hrow := h.row b f cs hr
          obtain ⟨hll, hget⟩ := bytesS_get hb
          have hln : l.length = n.toNat := by rw [hll, List.length_take]; omega
          have hcell : ∀ j x, l[j]? = some x → w.cell? ⟨(E b).g, j, none⟩ = some (.int .u8 x.toNat) := by
            intro j x hj
            have hx := hget j x hj
            have hjl : j < l.length := (List.getElem?_eq_some_iff.1 hj).1
            rw [List.getElem?_take, if_pos (by omega)] at hx
            obtain ⟨u, h3, h4⟩ := hrow.cell j _ hx
            rw [t2, Nat.zero_add] at h3
            rw [h3, show u = _ from h4]
          have hl0 : l ≠ [] := by intro e0; rw [e0] at hln; simp at hln; omega
          have hsz : l.length ≤ cs0.size := by
            have hlast : l.length - 1 < l.length := by
              cases l with
              | nil => exact absurd rfl hl0
              | cons _ _ => simp
            have := hcell (l.length - 1) l[l.length - 1] (List.getElem?_eq_getElem hlast)
            simp only [World.cell?, t3] at this
            have := (Array.getElem?_eq_some_iff.1 this).1
            omega
          have hrun := Lib.run_unsafeString_row (P := P) w t t o.type e ht (cellsOf_size hm) (E b).g cs0.size (by simp [World.shape?, t3]) l hl0 hsz (by omega) (fun j x hj => by
            have := hcell j x hj
            have e : (⟨(E b).g, 0, none⟩ : Addr).add j = ⟨(E b).g, j, none⟩ := by rw [add_at, Nat.zero_add]
            rw [e]; exact this)
          have h0 : c.argTypes[0]? = some t := get0 hts
          have hsame : ∀ as, Builtin.unsafeString_ c.argTypes o.type as = Builtin.unsafeString_ #[t, t] o.type as := by
            intro as
            unfold Builtin.unsafeString_
            rw [h0]
            rfl
          have hx : a.eval x = .pointer (some ⟨(E b).g, 0, none⟩) := by have := v1.2; rw [t2] at this; exact this
          have hy : a.eval y = .int .i64 l.length := by rw [show a.eval y = _ from v2]; congr 1; omega
          have ha : c.args.map a.eval = #[.pointer (some ⟨(E b).g, 0, none⟩), .int .i64 l.length] := by
            apply Array.ext'
            simp [hxs, hx, hy]
          refine ⟨.string ⟨l.toArray⟩, _, _, .inl ?_, rfl, by show H.next ≤ H.next + 1; omega, ext_upd _ _ _, h.killed hr hf ⟨cs0, e, fz0, t3⟩ l.length⟩
          rw [exec_builtin hop hcal, ha]
          simp only [builtin, Sem.run_bind, hsame, hrun]
          simp
end
end Go.Am

/- Appending zeros: 'append(s, make([]T, n)...)', as the front end folds it. -/
set_option linter.unusedVariables false
set_option linter.unusedSimpArgs false
namespace Go.Am
open Go.RowKit
variable {G : Nat → Nat} {P : Program}
section
variable {B : Prot} {w0 : Base} {w : World} {E : Nat → Ent} {H : AHeap}
variable {C : CallF} {o : Oper} {opc : AOpc} {args : List AOpd} {env : Env} {a : Act} {v : AV} {H' : AHeap}
theorem run_zeros_room {ts : Array TypeId} {ty : TypeId} {as : Array Value} {t el u' : TypeId} {k k' : IntKind} {i : TypeInfo} {z : Value} {base : Option Addr} {sLen sCap m : Nat} {w' : World}
    (h0 : ts[0]? = some t) (h1 : ts[1]? = some u') (hu : P.underlying u' = some (.int k)) (ht : P.underlying t = some (.slice el)) (hi : P.info? el = some i) (hz : i.zero = some z) (hsz : i.size ≠ 0)
    (a0 : as[0]? = some (.slice base sLen sCap)) (a1 : as[1]? = some (.int k' (m : Int))) (hm : IntKind.i64.wrap (m : Int) = m) (hb : ¬ ((m : Int) * i.bytes > 2 ^ 48)) (hg : sLen + m ≤ sCap)
    (hst : (match base with | some a => storeCells (a.add (sLen * i.size)) (Builtin.zeroCells z.cells m).toList | none => pure () : Sem Unit).run P w = .ok () w') :
    (Builtin.append_ ts ty as).run P w = .ok (.slice base (sLen + m) sCap) w' := by
  have hneg : ¬ ((m : Int) < 0) := by omega
  have hb' : ¬ (281474976710656 < (m : Int) * i.bytes) := by omega
  by_cases hm0 : m * i.size = 0
  · have hm0' : m = 0 := by rcases Nat.mul_eq_zero.1 hm0 with h | h; exact h; exact absurd h hsz
    subst hm0'
    have hzc : Builtin.zeroCells z.cells 0 = #[] := by simp [Builtin.zeroCells]
    rw [hzc] at hst
    cases base with
    | none =>
      simp at hst
      subst hst
      simp at hm hg
      simp [Builtin.append_, h0, h1, a0, a1, run_underlying ht, run_underlying hu, sizeOf, typeInfo, hi, asInt, asIntOf, hm, hg]
    | some ad =>
      simp only at hst
      simp at hm hg
      simp [Builtin.append_, h0, h1, a0, a1, run_underlying ht, run_underlying hu, sizeOf, typeInfo, hi, asInt, asIntOf, hm, hg, hst]
  · cases base with
    | none =>
      simp at hst
      subst hst
      simp [Builtin.append_, h0, h1, a0, a1, run_underlying ht, run_underlying hu, sizeOf, typeInfo, hi, asInt, asIntOf, hm, hg, hneg, hb', hm0, zeroValue, hz]
    | some ad =>
      simp only at hst
      simp [Builtin.append_, h0, h1, a0, a1, run_underlying ht, run_underlying hu, sizeOf, typeInfo, hi, asInt, asIntOf, hm, hg, hneg, hb', hm0, zeroValue, hz, hst]
theorem run_zeros_grow {ts : Array TypeId} {ty : TypeId} {as : Array Value} {t el u' : TypeId} {k k' : IntKind} {i : TypeInfo} {z : Value} {base : Option Addr} {sLen sCap m : Nat} {olds : Array Value}
    (h0 : ts[0]? = some t) (h1 : ts[1]? = some u') (hu : P.underlying u' = some (.int k)) (ht : P.underlying t = some (.slice el)) (hi : P.info? el = some i) (hz : i.zero = some z) (hsz : i.size ≠ 0)
    (a0 : as[0]? = some (.slice base sLen sCap)) (a1 : as[1]? = some (.int k' (m : Int))) (hm : IntKind.i64.wrap (m : Int) = m) (hb : ¬ ((m : Int) * i.bytes > 2 ^ 48))
    (holds : (Builtin.firstCells i.size sLen (.slice base sLen sCap)).run P w.drew = .ok olds w.drew) (hg : sCap < sLen + m) (h63 : sLen + m ≤ 2 ^ 60) (hfit : Builtin.nextslicecap (sLen + m) sCap * i.bytes ≤ 281474976710656) :
    (Builtin.append_ ts ty as).run P w = .ok (.slice (some ⟨w.heap.size, 0, none⟩) (sLen + m) (grownCap w (sLen + m) sCap el))
      (w.drew.alloc (.cells (olds ++ Builtin.zeroCells z.cells m ++ Builtin.zeroCells z.cells (grownCap w (sLen + m) sCap el - (sLen + m))) el)) := by
  have hneg : ¬ ((m : Int) < 0) := by omega
  have hb' : ¬ (281474976710656 < (m : Int) * i.bytes) := by omega
  have hn' : ¬ (sLen + m ≤ sCap) := by omega
  have h63' : ¬ (9223372036854775807 < ((sLen : Int) + (m : Int))) := by omega
  have h48' : ¬ (281474976710656 < Builtin.nextslicecap (sLen + m) sCap * i.bytes) := by omega
  by_cases hm0 : m * i.size = 0
  · have hm0' : m = 0 := by rcases Nat.mul_eq_zero.1 hm0 with h | h; exact h; exact absurd h hsz
    subst hm0'
    have hzc : Builtin.zeroCells z.cells 0 = #[] := by simp [Builtin.zeroCells]
    have hn2 : ¬ sLen ≤ sCap := by omega
    have h632 : ¬ (9223372036854775807 < (sLen : Int)) := by omega
    have h482 : ¬ (281474976710656 < Builtin.nextslicecap sLen sCap * i.bytes) := by simpa using h48'
    simp at hm
    simp [Builtin.append_, h0, h1, a0, a1, run_underlying ht, run_underlying hu, sizeOf, typeInfo, zeroValue, hi, hz, asInt, asIntOf, hm, hn2, h632, h482, Question.forced, holds, newRow, grownCap, hzc]
  · simp [Builtin.append_, h0, h1, a0, a1, run_underlying ht, run_underlying hu, sizeOf, typeInfo, zeroValue, hi, hz, asInt, asIntOf, hm, hneg, hb', hm0, hn', h63', h48', Question.forced, holds, newRow, grownCap]
theorem s_grow (c : Call) (hop : o.op = .call c) (hcal : c.callee = .builtin .append) {t u' : TypeId} {ts : List TypeId} {x y : Operand} {xs : List Operand} (hts : c.argTypes.toList = t :: u' :: ts) (hxs : c.args.toList = x :: y :: xs)
    {el : TypeId} (ht : P.underlying t = some (.slice el)) {k : IntKind} (hu : P.underlying u' = some (.int k)) {sz by_ : Nat} {z : AV} (hm : sizeT P el = some sz) (hb : bytesT P el = some by_) (hz : zeroOf P el = some z) (hsz : sz = z.cells.length) (hs0 : sz ≠ 0)
    (hc : with2 G (.w (.grow sz by_ z.cells)) x y = some (opc, args)) (he : EnvR G H.next E env a) (h : HRel G B w0 E H w) (hs : osem C opc (args.map env.ev) H = some (v, H')) :
    Out P G B w0 E H w (execOp a.eval o) v H' := by
  obtain ⟨x', y', h1, h2, rfl, rfl⟩ := with2_eq hc
  have v1 := opd_VR he h1
  have v2 := opd_VR he h2
  simp only [List.map_cons, List.map_nil, osem] at hs
  cases e1 : env.ev x' <;> rw [e1] at hs v1 <;> simp only [wsem, reduceCtorEq] at hs
  cases e2 : env.ev y' <;> rw [e2] at hs v2 <;> simp only [reduceCtorEq] at hs
  rename_i p sv len cap kk n
  split at hs
  · rename_i hq
    obtain ⟨n0, n1, n2⟩ := hq
    obtain ⟨m, rfl⟩ : ∃ m : Nat, n = m := ⟨n.toNat, by omega⟩
    simp only [Int.toNat_natCast] at hs
    obtain ⟨i, hi, his⟩ := info_size hm
    obtain ⟨i', j1, j2⟩ := bytes_info hb
    rw [hi] at j1; simp at j1; subst j1
    obtain ⟨i', zv, k1, k2, k3⟩ := zero_info hz
    rw [hi] at k1; simp at k1; subst k1
    have hzV := ofValue_cells (G := G) (n := H.next) (E := E) k3
    have hzc : zv.cells.size = sz := by have := hzV.length; rw [Array.length_toList] at this; omega
    have t0 := get0 hts
    have t1 := get1 hts
    have a0' : ∀ q, a.eval x = q → (c.args.map a.eval)[0]? = some q := fun q hq => by rw [map_get0 hxs, hq]
    have a1' : (c.args.map a.eval)[1]? = some (.int kk (m : Int)) := by rw [map_get1 (a := a) hxs]; exact congrArg some v2
    have hex : ∀ {val : Value} {w1 : World}, (Builtin.append_ c.argTypes o.type (c.args.map a.eval)).run P w = .ok val w1 → (execOp a.eval o).run P w = .ok (.value val) w1 := by
      intro val w1 hr
      rw [exec_builtin hop hcal]
      simp [builtin, hr]
    have hw : IntKind.i64.wrap (m : Int) = m := by unfold IntKind.wrap; simp [IntKind.bits, IntKind.signed]; omega
    have hbb : ¬ ((m : Int) * i.bytes > 2 ^ 48) := by rw [j2]; omega
    have hrow := zeros_VRs hzV (by omega) m
    have fus : ((Builtin.zeroCells zv.cells m).toList).length = m * sz := by rw [Array.length_toList, zeroCells_len, hzc]
    have hrow' : VRs G H.next E (List.replicate m z.cells).flatten (Builtin.zeroCells zv.cells m).toList := by
      unfold Builtin.zeroCells
      rw [hzc, hsz]
      rw [hzc, hsz] at hrow
      exact hrow
    have hsi : i.size ≠ 0 := by rw [his]; exact hs0
    refine OutA.out (el := el) (p := p) ?_
    exact s_app_core (i := i) (zv := zv) (el := el) h v1 his j2 hzc hrow' fus
      (fun {base sLen sCap w'} hq hle hst => run_zeros_room t0 t1 hu ht hi k2 hsi (a0' _ hq) a1' hw hbb hle (by cases base <;> simpa using hst))
      (fun hq ho hlt h60 hfit => by simpa using run_zeros_grow t0 t1 hu ht hi k2 hsi (a0' _ hq) a1' hw hbb ho hlt h60 hfit) hex hs
  · cases hs
end
end Go.Am

/- One operation, whatever it is: what the translation makes of it gives what the model gives. -/
set_option linter.unusedVariables false
set_option linter.unusedSimpArgs false
namespace Go.Am
open Go.RowKit
variable {G : Nat → Nat} {P : Program}
section
variable {B : Prot} {w0 : Base} {w : World} {E : Nat → Ent} {H : AHeap}
variable {C : CallF} {o : Oper} {opc : AOpc} {args : List AOpd} {env : Env} {a : Act} {v : AV} {H' : AHeap}
theorem call_sound (c : Call) (hop : o.op = .call c) (hc : compileCall P G c = some (opc, args)) (hn : opc ≠ .w .call) (he : EnvR G H.next E env a) (h : HRel G B w0 E H w) (hs : osem C opc (args.map env.ev) H = some (v, H')) :
    Out P G B w0 E H w (execOp a.eval o) v H' := by
  unfold compileCall at hc
  cases hcal : c.callee with
  | value f =>
    simp only [hcal] at hc
    exact absurd (withs_eq hc).2 hn
  | invoke r m => simp [hcal] at hc
  | builtin b =>
    simp only [hcal] at hc
    split at hc
    · -- len
      rename_i t ts x xs e1 e2
      split at hc
      · rename_i hd; exact s_lenStr c hop hcal e1 e2 hd hc he h hs
      · rename_i hd; exact s_len c hop hcal e1 e2 hd hc he h hs
      · rename_i k e hd; exact s_lenA c hop hcal e1 e2 hd hc he h hs
      · rename_i hd; exact s_lenM c hop hcal e1 e2 hd hc he h hs
      · cases hc
    · rename_i t ts x xs e1 e2
      split at hc
      · rename_i hd; exact s_cap c hop hcal e1 e2 hd hc he h hs
      · cases hc
    · rename_i x xs e2; exact s_max c hop hcal e2 hc he h hs
    · rename_i x xs e2; exact s_min c hop hcal e2 hc he h hs
    · -- append
      rename_i t u ts x y xs e1 e2
      split at hc
      · rename_i el hd
        split at hc
        · rename_i sz by_ _ z q1 q2 q3 q4
          split at hc
          · rename_i hz
            by_cases hbt : byteT P el = true
            · rw [if_pos hbt] at hc; exact s_appT c hop hcal e1 e2 hd q3 q1 q2 q4 hz.1 (.inr ⟨_, rfl⟩) hc he h hs
            · rw [if_neg hbt] at hc; exact s_app c hop hcal e1 e2 hd q3 q1 q2 q4 hz.1 (.inr ⟨_, rfl⟩) hc he h hs
          · cases hc
        · rename_i sz by_ z q1 q2 q3 q4
          split at hc
          · rename_i hz
            by_cases hbt : byteT P el = true
            · rw [if_pos hbt] at hc; exact s_appT c hop hcal e1 e2 hd q3 q1 q2 q4 (by omega) (.inl rfl) hc he h hs
            · rw [if_neg hbt] at hc; exact s_app c hop hcal e1 e2 hd q3 q1 q2 q4 (by omega) (.inl rfl) hc he h hs
          · cases hc
        · rename_i sz by_ _ z q1 q2 q3 q4
          split at hc
          · rename_i hz; exact s_grow c hop hcal e1 e2 hd q3 q1 q2 q4 hz.1 hz.2 hc he h hs
          · cases hc
        · cases hc
      · cases hc
    · -- copy
      rename_i t u ts x y xs e1 e2
      split at hc
      · rename_i el hd
        split at hc
        · rename_i sz _ q1 q2
          split at hc
          · exact s_cpy c hop hcal e1 e2 hd q1 hc he h hs
          · cases hc
        · rename_i sz q1 q2
          split at hc
          · exact s_cpy c hop hcal e1 e2 hd q1 hc he h hs
          · cases hc
        · cases hc
      · cases hc
    · -- unsafe.SliceData
      rename_i x e2
      exact s_sdata c hop hcal e2 hc he h hs
    · -- unsafe.String
      rename_i t ts x y e1 e2
      split at hc
      · rename_i e hd
        split at hc
        · rename_i hz; exact s_ustr c hop hcal e1 e2 hd hz hc he h hs
        · cases hc
      · cases hc
    · -- delete
      rename_i t ts x y xs e1 e2
      split at hc
      · rename_i k e hd
        split at hc
        · rename_i ck hck; exact s_mdel c hop hcal e1 e2 hd hck hc he h hs
        · cases hc
      · cases hc
    · cases hc
theorem s_p2u (s d e : TypeId) (x : Operand) (hop : o.op = .convert s d x) (q1 : P.underlying s = some (.pointer e)) (q2 : P.underlying d = some .unsafePointer) {n : Nat} (q3 : sizeT P e = some n) (q4 : ¬n = 0)
    (hc : with1 G (.r .p2u) x = some (opc, args)) (he : EnvR G H.next E env a) (h : HRel G B w0 E H w) (hs : osem C opc (args.map env.ev) H = some (v, H')) :
    Out P G B w0 E H w (execOp a.eval o) v H' := by
  obtain ⟨x', h1, rfl, rfl⟩ := with1_eq hc
  obtain ⟨h2, rfl⟩ := osem_r hs
  have hv := opd_VR he h1
  simp only [List.map_cons, List.map_nil] at h2
  cases e1 : env.ev x' <;> rw [e1] at h2 hv <;> simp only [rsem, reduceCtorEq] at h2
  rename_i p
  cases p with
  | none => simp at h2
  | some p =>
    obtain ⟨b, off⟩ := p
    simp only at h2
    cases hl : H'.ld b off 1 with
    | none => simp [hl] at h2
    | some cs =>
      simp [hl] at h2
      subst h2
      obtain ⟨k1, k2, us, k3, k4⟩ := h.ld hl
      have hlen := k3.length
      obtain ⟨u, hu⟩ : ∃ u, us[0]? = some u := ⟨us[0]'(by omega), List.getElem?_eq_getElem _⟩
      have hcell := k4 0 u hu
      rw [Nat.add_zero] at hcell
      obtain ⟨i, i1, i2⟩ := info_size q3
      refine Out.pure h (u := .pointer (some ⟨(E b).g, (E b).o + off, none⟩)) ?_ ⟨k2, rfl⟩
      have := run_convert_to_unsafe (P := P) q1 q2 (by rw [i1]; simp [i2, q4]) hcell
      simp [execOp, hop, show a.eval x = _ from hv.2, this]
theorem conv_sound (s d : TypeId) (x : Operand) (hop : o.op = .convert s d x) (hc : compileConv P G s d x = some (opc, args)) (he : EnvR G H.next E env a) (h : HRel G B w0 E H w) (hs : osem C opc (args.map env.ev) H = some (v, H')) :
    Out P G B w0 E H w (execOp a.eval o) v H' := by
  unfold compileConv at hc
  split at hc
  · rename_i sk k q1 q2; exact s_convP s d x hop _ (.inl ⟨k, sk, q1, q2, rfl⟩) hc he h hs
  · rename_i sk q1 q2; exact s_convP s d x hop _ (.inr ⟨sk, q1, q2, rfl⟩) hc he h hs
  · rename_i q1 q2; exact s_convS s d x hop q1 q2 hc he h hs
  · rename_i e q1 q2
    split at hc
    · rename_i q3; exact s_s2b s d e x hop q1 q2 q3 hc he h hs
    · cases hc
  · rename_i e q1 q2
    split at hc
    · rename_i n q3
      split at hc
      · cases hc
      · rename_i q4; exact s_u2p s d e x hop q1 q2 q3 q4 hc he h hs
    · cases hc
  · rename_i e q1 q2
    split at hc
    · rename_i n q3
      split at hc
      · cases hc
      · rename_i q4; exact s_p2u s d e x hop q1 q2 q3 q4 hc he h hs
    · cases hc
  · rename_i e q1 q2
    split at hc
    · rename_i q3; exact s_b2s s d e x hop q1 q2 q3 hc he h hs
    · cases hc
  · cases hc
theorem run_places : ∀ (fs : List Field) (pls : List (Nat × Nat)), mapO (place1 P) fs = some pls → (fs.mapM (fun f => do pure (f.offset, ← sizeOf f.type)) : Sem (List (Nat × Nat))).run P w = .ok pls w
  | [], pls, h => by simp [mapO] at h; subst h; simp
  | f :: fs, pls, h => by
    unfold mapO at h
    cases h1 : place1 P f with
    | none => simp [h1] at h
    | some q =>
      cases h2 : mapO (place1 P) fs with
      | none => simp [h1, h2] at h
      | some l =>
        simp [h1, h2] at h
        subst h
        unfold place1 at h1
        cases h3 : sizeT P f.type with
        | none => simp [h3] at h1
        | some n =>
          simp [h3] at h1
          subst h1
          have := run_places fs l h2
          rw [List.mapM_cons, Sem.run_bind, Sem.run_bind, run_sizeOf h3]
          simp only [Result.andThen_ok, Sem.run_pure, Sem.run_bind]
          rw [this]; simp
theorem build_sound (t : TypeId) (parts : Array (Nat × Operand)) (hop : o.op = .build t parts) (hc : compileOp0 P G o = some (opc, args)) (he : EnvR G H.next E env a) (h : HRel G B w0 E H w) (hs : osem C opc (args.map env.ev) H = some (v, H')) :
    Out P G B w0 E H w (execOp a.eval o) v H' := by
  simp only [compileOp0, hop] at hc
  split at hc
  · rename_i zs fields hz hd
    split at hc
    · rename_i pls hpls
      split at hc
      · rename_i pl hp
        refine s_bld t parts hop hz (place := fun i => pls[i]?) hp ?_ hc he h hs
        intro zv hzv ps cells hf
        have hm : (fields.mapM (fun f => do pure (f.offset, ← sizeOf f.type)) : Sem (Array (Nat × Nat))).run P w = .ok pls.toArray w := by
          rw [Array.mapM_eq_mapM_toList, Sem.run_map, run_places _ _ hpls]; rfl
        unfold Instr.build
        simp only [Sem.run_bind, hzv, Result.andThen_ok, run_underlying hd]
        rw [hm]
        simp only [Result.andThen_ok, List.getElem?_toArray, hf]
        simp
      · cases hc
    · cases hc
  · rename_i zs len e hz hd
    split at hc
    · rename_i m hm
      refine s_bld t parts hop hz (place := fun i => some (i * m, m)) ?_ ?_ hc he h hs
      · generalize parts.toList = l
        induction l with
        | nil => rfl
        | cons p l ih => unfold mapO; simp [ih]
      · intro zv hzv ps cells hf
        have hsz : (sizeOf e).run P w = .ok m w := run_sizeOf hm
        unfold Instr.build
        simp only [Sem.run_bind, hzv, Result.andThen_ok, run_underlying hd, hsz]
        rw [hf]; simp
    · cases hc
  · cases hc
theorem op_sound (hc : compileOp0 P G o = some (opc, args)) (hn : opc ≠ .w .call) (hnd : isDfr o.op = false) (he : EnvR G H.next E env a) (h : HRel G B w0 E H w) (hs : osem C opc (args.map env.ev) H = some (v, H')) :
    Out P G B w0 E H w (execOp a.eval o) v H' := by
  have hc0 := hc
  unfold compileOp0 at hc
  split at hc
  · rename_i x hop; exact s_move x (.inl hop) hc he h hs
  · rename_i x hop; exact s_move x (.inr hop) hc he h hs
  · rename_i c x y hop; exact s_pick c x y hop hc he h hs
  · rename_i e hop
    split at hc
    · rename_i z hz
      by_cases hbt : builderT P e = true
      · rw [if_pos hbt] at hc; exact s_boxT e hop hz hc h hs
      · rw [if_neg hbt] at hc; exact s_alloc e hop hz hc h hs
    · cases hc
  · rename_i e x hop; exact s_box e x hop hc he h hs
  · rename_i t parts hop; exact build_sound t parts hop hc0 he h hs
  · rename_i t len parts hop
    split at hc
    · rename_i e hd
      split at hc
      · rename_i n z q1 q2
        split at hc
        · rename_i q3; exact s_bsl t len parts hop hd q1 q2 q3.1 q3.2.1 q3.2.2 hc he h hs
        · cases hc
      · cases hc
    · cases hc
  · rename_i t x hop
    split at hc
    · rename_i n g q1 q2
      split at hc
      · rename_i q3; exact s_ld t x hop q1 q2 (by simpa using q3) hc he h hs
      · cases hc
    · cases hc
  · rename_i t x y hop
    split at hc
    · rename_i n q1; exact s_st t x y hop q1 hc he h hs
    · cases hc
  · rename_i x hop; exact s_nilC x hop hc he h hs
  · rename_i op t x y yt hop; exact s_bin op t x y yt hop hc he h hs
  · rename_i op t x hop; exact s_un op t x hop hc he h hs
  · rename_i s d x hop; exact conv_sound s d x hop hc he h hs
  · rename_i f first caps hop; exact s_mkF f first caps hop hc he h hs
  · rename_i t hop; exact s_mkM t hop hc h hs
  · rename_i t l c hop
    split at hc
    · rename_i e hd
      split at hc
      · rename_i by_ z n q1 q2 q3
        split at hc
        · rename_i q4; exact s_mks t l c hop hd q1 q2 q3 q4 hc he h hs
        · cases hc
      · cases hc
    · cases hc
  · rename_i t x lo hi mx hop
    split at hc
    · rename_i hd
      split at hc
      · cases hc
      · rename_i hmx
        have : mx = none := by cases mx <;> simp at hmx ⊢
        subst this
        exact s_slS t x lo hi hop hd hc he h hs
    · rename_i e hd
      split at hc
      · rename_i n q1
        split at hc
        · cases hc
        · rename_i hmx; exact s_sl t x lo hi mx hop hd q1 hmx hc he h hs
      · cases hc
    · rename_i len e hd
      split at hc
      · rename_i n q1
        split at hc
        · cases hc
        · rename_i hmx
          have : mx = none := by cases mx <;> simp at hmx ⊢
          subst this
          exact s_slp t x lo hi hop hd q1 hc he h hs
      · cases hc
    · cases hc
  · rename_i s x f hop
    split at hc
    · rename_i fields hd
      split at hc
      · rename_i fd hf
        split at hc
        · rename_i n q1
          split at hc
          · cases hc
          · rename_i q2; exact s_fa s x f hop hd hf q1 q2 hc he h hs
        · cases hc
      · cases hc
    · cases hc
  · rename_i t x f hop
    split at hc
    · rename_i fields hd
      split at hc
      · rename_i fd hf
        split at hc
        · rename_i n g q1 q2; exact s_field t x f hop hd hf q1 q2 hc he h hs
        · cases hc
      · cases hc
    · cases hc
  · rename_i t x i hop
    split at hc
    · rename_i e hd
      split at hc
      · rename_i n q1; exact s_ia t x i hop hd q1 hc he h hs
      · cases hc
    · rename_i len e hd
      split at hc
      · rename_i n q1; exact s_iap t x i hop hd q1 hc he h hs
      · cases hc
    · cases hc
  · rename_i t x i hop
    split at hc
    · rename_i hd; exact s_idxS t x i hop hd hc he h hs
    · rename_i len e hd
      split at hc
      · rename_i n g q1 q2; exact s_idxA t x i hop hd q1 q2 hc he h hs
      · cases hc
    · cases hc
  · rename_i t x i ok hop
    split at hc
    · rename_i k e hd
      split at hc
      · rename_i z ck q1 q2; exact s_look t x i ok hop hd q1 q2 hc he h hs
      · cases hc
    · cases hc
  · rename_i t m k hop
    split at hc
    · rename_i kt e hd
      split at hc
      · rename_i z ck q1 q2; exact s_ment t m k hop hd q1 q2 hc he h hs
      · cases hc
    · cases hc
  · rename_i t m s x hop; exact s_mst t m s x hop hc he h hs
  · rename_i t x hop
    split at hc
    · rename_i hd; exact s_rngS t x hop hd hc he h hs
    · obtain ⟨_, _, e, _⟩ := withM_eq hc; exact absurd e hn
    · cases hc
  · rename_i x hop; exact s_nxtS x hop hc he h hs
  · obtain ⟨_, _, e, _⟩ := withM_eq hc; exact absurd e hn
  · rename_i x hop; exact s_ent x hop hc he h hs
  · rename_i c hop; rw [hop] at hnd; cases hnd
  · rename_i t m k x hop
    split at hc
    · rename_i kt e hd
      split at hc
      · rename_i ck q1; exact s_mset t m k x (.inl hop) hd q1 hc he h hs
      · cases hc
    · cases hc
  · rename_i t m k x hop
    split at hc
    · rename_i kt e hd
      split at hc
      · rename_i ck q1; exact s_mset t m k x (.inr hop) hd q1 hc he h hs
      · cases hc
    · cases hc
  · rename_i x i hop; exact s_ext x i hop hc he h hs
  · rename_i x hop; exact s_fail x hc hs
  · rename_i t x hop; exact s_fail x hc hs
  · rename_i c hop; exact call_sound c hop hc hn he h hs
  · cases hc
end
end Go.Am
