/- What the small machine's operations that do not look at the heap give, the model's operations give too. -/
import Derived.Test.YtjmiblcdjkcgoaaAmMem
import Derived.Test.YtjmiblcdjkcgoaaAmComp
import Derived.Laws.StructEq
import Derived.Laws.Cover3
import Derived.Laws.Pointers
import Derived.Laws.Small
set_option linter.unusedVariables false
set_option linter.unusedSimpArgs false
namespace Go.Am
open Go.RowKit
variable {G : Nat → Nat} {P : Program}

/-! ### Strings -/
theorem toList_loop (bs : ByteArray) (n : Nat) : ∀ (i : Nat) (acc : List UInt8), bs.size - i = n → ByteArray.toList.loop bs i acc = acc.reverse ++ bs.data.toList.drop i := by
  induction n with
  | zero =>
    intro i acc h
    unfold ByteArray.toList.loop
    rw [if_neg (by omega), List.drop_eq_nil_of_le (by rw [Array.length_toList]; have : bs.data.size = bs.size := rfl; omega), List.append_nil]
  | succ n ih =>
    intro i acc h
    unfold ByteArray.toList.loop
    have hi : i < bs.size := by omega
    rw [if_pos hi, ih _ _ (by omega)]
    have hd : i < bs.data.toList.length := by rw [Array.length_toList]; exact hi
    rw [List.drop_eq_getElem_cons hd, List.reverse_cons, List.append_assoc, List.singleton_append]
    congr 2
    have : bs.get! i = bs.data[i]! := rfl
    rw [this, getElem!_pos bs.data i (by exact hi), Array.getElem_toList]

theorem toList_eq (bs : ByteArray) : bs.toList = bs.data.toList := by
  unfold ByteArray.toList
  rw [toList_loop bs _ 0 [] rfl]; simp

def bs (l : List UInt8) : ByteArray := ⟨⟨l⟩⟩
theorem bs_toList (l : List UInt8) : (⟨⟨l⟩⟩ : ByteArray).toList = l := by rw [toList_eq]
theorem bs_size (l : List UInt8) : (⟨⟨l⟩⟩ : ByteArray).size = l.length := rfl
theorem bs_append (a b : List UInt8) : (⟨⟨a⟩⟩ : ByteArray) ++ ⟨⟨b⟩⟩ = ⟨⟨a ++ b⟩⟩ := by
  apply ByteArray.ext
  rw [ByteArray.data_append]
  apply Array.ext'
  simp
theorem bs_extract (a : List UInt8) (l h : Nat) : (⟨⟨a⟩⟩ : ByteArray).extract l h = ⟨⟨(a.take h).drop l⟩⟩ := by
  apply ByteArray.ext
  rw [ByteArray.data_extract]
  apply Array.ext'
  simp [List.drop_take]
theorem bs_data (s : ByteArray) : (⟨⟨s.data.toList⟩⟩ : ByteArray) = s := by cases s; rfl
theorem bs_get (l : List UInt8) (i : Nat) : (⟨⟨l⟩⟩ : ByteArray)[i]? = l[i]? := by
  by_cases h : i < l.length
  · rw [getElem?_pos (⟨⟨l⟩⟩ : ByteArray) i h, List.getElem?_eq_getElem h]; rfl
  · rw [getElem?_neg (⟨⟨l⟩⟩ : ByteArray) i h, List.getElem?_eq_none (by omega)]

/-! ### Constants -/
section
variable {n : Nat} {E : Nat → Ent}
theorem ofFlat_VR {v : Value} {a : AV} (h : ofFlat v = some a) : VR G n E a v := by
  cases v with
  | bool b => simp [ofFlat] at h; subst h; rfl
  | int k i => simp [ofFlat] at h; subst h; rfl
  | string s => simp [ofFlat] at h; subst h; show _ = _; rw [bs_data]
  | pointer p => cases p <;> simp [ofFlat] at h; subst h; rfl
  | slice p l c => cases p <;> cases l <;> cases c <;> simp [ofFlat] at h; subst h; exact ⟨rfl, rfl⟩
  | map m => cases m <;> simp [ofFlat] at h; subst h; rfl
  | nilFunc => simp [ofFlat] at h; subst h; rfl
  | nilIface => simp [ofFlat] at h; subst h; rfl
  | _ => simp [ofFlat] at h

theorem mapO_VRs : ∀ {vs : List Value} {as : List AV}, mapO ofFlat vs = some as → VRs G n E as vs
  | [], as, h => by simp [mapO] at h; subst h; rfl
  | v :: vs, as, h => by
    unfold mapO at h
    cases h1 : ofFlat v with
    | none => simp [h1] at h
    | some a =>
      cases h2 : mapO ofFlat vs with
      | none => simp [h1, h2] at h
      | some l => simp [h1, h2] at h; subst h; exact ⟨v, vs, rfl, ofFlat_VR h1, mapO_VRs h2⟩

theorem ofValue_VR {v : Value} {a : AV} (h : ofValue v = some a) : VR G n E a v := by
  cases v with
  | agg cs =>
    simp only [ofValue] at h
    cases h2 : mapO ofFlat cs.toList with
    | none => simp [h2] at h
    | some l => simp [h2] at h; subst h; exact ⟨cs, rfl, mapO_VRs h2⟩
  | _ => exact ofFlat_VR h
end

/-- What an environment says of the temporaries. -/
def EnvR (G : Nat → Nat) (n : Nat) (E : Nat → Ent) (e : Env) (a : Act) : Prop := ∀ i, VR G n E (e i) (a.tmps.getD i Go.undef)

theorem opd_VR {n : Nat} {E : Nat → Ent} {e : Env} {a : Act} (he : EnvR G n E e a) {x : Operand} {y : AOpd} (h : opd G x = some y) : VR G n E (e.ev y) (a.eval x) := by
  cases x with
  | tmp t => simp [opd] at h; subst h; exact he t
  | const v =>
    simp only [opd] at h
    cases h1 : ofValue v with
    | none => simp [h1] at h
    | some w => simp [h1] at h; subst h; exact ofValue_VR h1
  | global g => simp [opd] at h
  | func f => simp [opd] at h; subst h; exact ⟨f, #[], #[], rfl, rfl, rfl, rfl⟩

theorem opds_VRs {n : Nat} {E : Nat → Ent} {e : Env} {a : Act} (he : EnvR G n E e a) : ∀ {xs : List Operand} {ys : List AOpd}, opds G xs = some ys → VRs G n E (ys.map e.ev) (xs.map a.eval)
  | [], ys, h => by simp [opds, mapO] at h; subst h; rfl
  | x :: xs, ys, h => by
    unfold opds mapO at h
    cases h1 : opd G x with
    | none => simp [h1] at h
    | some y =>
      cases h2 : mapO (opd G) xs with
      | none => simp [h1, h2] at h
      | some l => simp [h1, h2] at h; subst h; exact ⟨_, _, rfl, opd_VR he h1, opds_VRs he h2⟩

/-! ### Two operands -/
section
variable {n : Nat} {E : Nat → Ent}

theorem guard_int (w : World) (op : BinOp) (t : TypeId) (x y : Operand) (k l : IntKind) (a b : Int) : (eqGuard op t x y (.int k a) (.int l b)).run P w = .ok () w := by
  cases op <;> simp [eqGuard]
theorem guard_str (w : World) (op : BinOp) (t : TypeId) (x y : Operand) (a b : ByteArray) : (eqGuard op t x y (.string a) (.string b)).run P w = .ok () w := by
  cases op <;> simp [eqGuard]
theorem guard_bool (w : World) (op : BinOp) (t : TypeId) (x y : Operand) (a b : Bool) : (eqGuard op t x y (.bool a) (.bool b)).run P w = .ok () w := by
  cases op <;> simp [eqGuard]

theorem run_binOp {w : World} {op : BinOp} {t : TypeId} {x y : Operand} {a b v : AV} {u1 u2 : Value} (h : Am.binOp op a b = some v) (ha : VR G n E a u1) (hb : VR G n E b u2) :
    ∃ u, ((do eqGuard op t x y u1 u2; Go.binOp op t u1 u2 : Sem Value)).run P w = .ok u w ∧ VR G n E v u := by
  cases a <;> cases b <;> simp only [Am.binOp] at h <;> try (cases h; done)
  · rename_i k i l j
    rw [show u1 = _ from ha, show u2 = _ from hb]
    rw [Sem.run_bind, guard_int, Result.andThen_ok]
    by_cases hk : k = l
    · subst hk
      cases op <;> simp only [Am.intOp, Am.shiftOp, if_true, Option.some.injEq, reduceCtorEq] at h <;> simp only [Go.binOp, ne_eq, not_true_eq_false, if_false]
      case add => subst h; exact ⟨_, rfl, rfl⟩
      case sub => subst h; exact ⟨_, rfl, rfl⟩
      case mul => subst h; exact ⟨_, rfl, rfl⟩
      case and => subst h; exact ⟨_, rfl, rfl⟩
      case or => subst h; exact ⟨_, rfl, rfl⟩
      case xor => subst h; exact ⟨_, rfl, rfl⟩
      case andNot => subst h; exact ⟨_, rfl, rfl⟩
      case eql => subst h; exact ⟨_, rfl, rfl⟩
      case neq => subst h; exact ⟨_, rfl, rfl⟩
      case lss => subst h; exact ⟨_, rfl, rfl⟩
      case leq => subst h; exact ⟨_, rfl, rfl⟩
      case gtr => subst h; exact ⟨_, rfl, rfl⟩
      case geq => subst h; exact ⟨_, rfl, rfl⟩
      all_goals
        split at h
        · cases h
        · rename_i h1
          simp only [Option.some.injEq] at h
          subst h
          refine ⟨_, ?_, rfl⟩
          simp [Op.intDiv, Op.shift, h1]
          try rfl
    · cases op <;> simp only [hk, Am.shiftOp, if_false, reduceCtorEq] at h <;> simp only [Go.binOp]
      all_goals
        split at h
        · cases h
        · rename_i h1
          simp only [Option.some.injEq] at h
          subst h
          refine ⟨_, ?_, rfl⟩
          simp [Op.shift, h1]
          try rfl
  · rename_i s r
    rw [show u1 = _ from ha, show u2 = _ from hb]
    rw [Sem.run_bind, guard_str, Result.andThen_ok]
    cases op <;> simp only [Am.strOp, Option.some.injEq, reduceCtorEq] at h <;> simp only [Go.binOp]
    case add =>
      split at h
      · cases h
      · rename_i h1
        simp only [Option.some.injEq] at h
        subst h
        refine ⟨_, ?_, rfl⟩
        have h2 : ¬ (((s.length + r.length : Nat) : Int) > IntKind.i64.max) := by
          have : IntKind.i64.max = 9223372036854775807 := by decide
          omega
        unfold Op.stringOp
        simp only [bs_size, if_neg h2, bs_append]
        rfl
    all_goals
      subst h
      refine ⟨_, ?_, rfl⟩
      simp [Op.stringOp, bs_toList]

theorem run_eqB {w : World} {op : BinOp} {t : TypeId} {x y : Operand} {a b : Bool} (ht : P.underlying t = some .bool) (ho : op = .eql ∨ op = .neq) :
    ((do eqGuard op t x y (.bool a) (.bool b); Go.binOp op t (.bool a) (.bool b) : Sem Value)).run P w = .ok (.bool ((a == b) != (op == .neq))) w := by
  rw [Sem.run_bind, guard_bool, Result.andThen_ok]
  have h1 : (Op.equal t (.bool a) (.bool b)).run P w = .ok (a == b) w := by
    unfold Op.equal; rw [show Op.maxDepth = 9999 + 1 from rfl]; exact run_equalIn_bool' w 9999 t a b ht
  rcases ho with rfl | rfl
  · simp [Go.binOp, h1]; cases a <;> cases b <;> rfl
  · simp [Go.binOp, h1]

end
end Go.Am
