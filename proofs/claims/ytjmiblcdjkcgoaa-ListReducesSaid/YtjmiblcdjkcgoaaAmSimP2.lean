/- What the small machine's operations that do not look at the heap give, the model's operations give too: the others. -/
import Derived.Test.YtjmiblcdjkcgoaaAmSimP
import Derived.DeepKeys
set_option linter.unusedVariables false
set_option linter.unusedSimpArgs false
namespace Go.Am
open Go.RowKit
variable {G : Nat → Nat} {P : Program} {n : Nat} {E : Nat → Ent} {w : World}

/-! ### nil -/
theorem guard_nil {op : BinOp} {t : TypeId} {x y : Operand} {u v : Value} (h : ∀ cs, u ≠ .agg cs) (h' : u ≠ .nilIface) : (eqGuard op t x y u v).run P w = .ok () w := by
  cases op <;> simp only [eqGuard] <;> cases u <;> cases v <;> first | rfl | exact absurd rfl h' | exact absurd rfl (h _)

def nilOf : NK → Value
  | .ptr => .pointer none
  | .slc => .slice none 0 0
  | .map => .map none
  | .fn => .nilFunc

theorem nil_val {k : NK} {y : Operand} {a : Act} (h : isNilC k y = true) :
    a.eval y = nilOf k := by
  unfold isNilC at h
  split at h <;> first | (simp at h; subst h; rfl) | cases h

/-- What holding a value against nil gives. -/
theorem equalIn_nil (d : Nat) {k : NK} {t : TypeId} (ht : nilKind P t = some k) {a : AV} {b : Bool} (h : isNil k a = some b) {u : Value} (hu : VR G n E a u) :
    (Op.equalIn (d + 1) t u (nilOf k)).run P w = .ok b w ∧ (Op.equalIn (d + 1) t (nilOf k) u).run P w = .ok b w := by
  unfold nilKind at ht
  cases hd : P.underlying t with
  | none => simp [hd] at ht
  | some ds =>
    cases ds <;> simp [hd] at ht <;> subst ht
    · cases a <;> simp [isNil] at h
      subst h
      rename_i p
      cases p with
      | none => rw [show u = _ from hu]; simp [nilOf, Op.equalIn, run_underlying hd]
      | some p => rw [hu.2]; simp [nilOf, Op.equalIn, run_underlying hd]
    · cases a <;> simp [isNil] at h
      subst h
      rename_i p _ _ _
      cases p with
      | none => rw [hu.2]; simp [nilOf, Op.equalIn, run_underlying hd]
      | some p => obtain ⟨_, a, c, e, _⟩ := hu; rw [e]; simp [nilOf, Op.equalIn, run_underlying hd]
    · cases a <;> simp [isNil] at h
      subst h
      rename_i p
      cases p with
      | none => rw [show u = _ from hu]; simp [nilOf, Op.equalIn, run_underlying hd]
      | some p => rw [hu.2]; simp [nilOf, Op.equalIn, run_underlying hd]
    · cases a <;> simp [isNil] at h <;> subst h
      · obtain ⟨_, _, _, _, e, _⟩ := hu; rw [e]; simp [nilOf, Op.equalIn, run_underlying hd]
      · rw [show u = _ from hu]; simp [nilOf, Op.equalIn, run_underlying hd]

theorem nil_shape {k : NK} {a : AV} {b : Bool} (h : isNil k a = some b) {u : Value} (hu : VR G n E a u) :
    (∀ cs, u ≠ .agg cs) ∧ u ≠ .nilIface ∧ (∀ kk i, u ≠ .int kk i) ∧ (∀ s, u ≠ .string s) ∧ (∀ f x, u ≠ .float f x) ∧ (∀ f x y, u ≠ .complex f x y) := by
  cases k <;> cases a <;> simp [isNil] at h
  · rename_i p
    cases p with
    | none => rw [show u = _ from hu]; simp
    | some p => rw [hu.2]; simp
  · rename_i p _ _ _
    cases p with
    | none => rw [hu.2]; simp
    | some p => obtain ⟨_, a, c, e, _⟩ := hu; rw [e]; simp
  · rename_i p
    cases p with
    | none => rw [show u = _ from hu]; simp
    | some p => rw [hu.2]; simp
  · obtain ⟨_, _, _, _, e, _⟩ := hu; rw [e]; simp
  · rw [show u = _ from hu]; simp

theorem nilOf_shape (k : NK) : (∀ cs, nilOf k ≠ .agg cs) ∧ nilOf k ≠ .nilIface ∧ (∀ kk i, nilOf k ≠ .int kk i) ∧ (∀ s, nilOf k ≠ .string s) ∧ (∀ f x, nilOf k ≠ .float f x) ∧ (∀ f x y, nilOf k ≠ .complex f x y) := by
  cases k <;> simp [nilOf]

theorem binOp_eq {op : BinOp} (ho : op = .eql ∨ op = .neq) {t : TypeId} {b : Bool} {z1 z2 : Value} (q1 : ∀ kk i, z1 ≠ .int kk i) (q2 : ∀ s, z1 ≠ .string s) (q3 : ∀ f x, z1 ≠ .float f x) (q4 : ∀ f x y, z1 ≠ .complex f x y)
    (q : (Op.equal t z1 z2).run P w = .ok b w) : (Go.binOp op t z1 z2).run P w = .ok (.bool (b != (op == .neq))) w := by
  have e1 : Go.binOp .eql t z1 z2 = (do pure (.bool (← Op.equal t z1 z2)) : Sem Value) := by
    cases z1 <;> first | rfl | exact absurd rfl (q1 _ _) | exact absurd rfl (q2 _) | exact absurd rfl (q3 _ _) | exact absurd rfl (q4 _ _ _)
  have e2 : Go.binOp .neq t z1 z2 = (do pure (.bool (!(← Op.equal t z1 z2))) : Sem Value) := by
    cases z1 <;> first | rfl | exact absurd rfl (q1 _ _) | exact absurd rfl (q2 _) | exact absurd rfl (q3 _ _) | exact absurd rfl (q4 _ _ _)
  rcases ho with rfl | rfl
  · rw [e1, Sem.run_bind, q]; cases b <;> rfl
  · rw [e2, Sem.run_bind, q]; cases b <;> rfl

theorem run_isNil {op : BinOp} (ho : op = .eql ∨ op = .neq) {k : NK} {t : TypeId} (ht : nilKind P t = some k) {a : AV} {b : Bool} (h : isNil k a = some b) {u : Value} (hu : VR G n E a u) (x y : Operand) :
    ((do eqGuard op t x y u (nilOf k); Go.binOp op t u (nilOf k) : Sem Value)).run P w = .ok (.bool (b != (op == .neq))) w ∧
    ((do eqGuard op t x y (nilOf k) u; Go.binOp op t (nilOf k) u : Sem Value)).run P w = .ok (.bool (b != (op == .neq))) w := by
  obtain ⟨h1, h2⟩ := equalIn_nil (w := w) 9999 ht h hu
  obtain ⟨h3, h4, h5, h6, h7, h8⟩ := nil_shape h hu
  obtain ⟨k3, k4, k5, k6, k7, k8⟩ := nilOf_shape k
  refine ⟨?_, ?_⟩
  · rw [Sem.run_bind, guard_nil h3 h4, Result.andThen_ok]; exact binOp_eq ho h5 h6 h7 h8 h1
  · rw [Sem.run_bind, guard_nil k3 k4, Result.andThen_ok]; exact binOp_eq ho k5 k6 k7 k8 h2

/-! ### Parts of a value -/
theorem info_size {t : TypeId} {m : Nat} (h : sizeT P t = some m) : ∃ i, P.info? t = some i ∧ i.size = m := by
  unfold sizeT at h
  cases hi : P.info? t with
  | none => simp [hi] at h
  | some i => simp [hi] at h; exact ⟨i, rfl, h⟩
theorem run_sizeOf {t : TypeId} {m : Nat} (h : sizeT P t = some m) : (sizeOf t).run P w = .ok m w := by
  obtain ⟨i, h1, h2⟩ := info_size h
  simp [sizeOf, typeInfo, h1, h2]
theorem run_isAgg {t : TypeId} {g : Bool} (h : aggT P t = some g) : (isAgg t).run P w = .ok g w := by
  unfold aggT at h
  cases hd : P.underlying t with
  | none => simp [hd] at h
  | some d => cases d <;> simp [hd] at h <;> subst h <;> simp [isAgg, run_underlying hd]
theorem bytes_info {t : TypeId} {m : Nat} (h : bytesT P t = some m) : ∃ i, P.info? t = some i ∧ i.bytes = m := by
  unfold bytesT at h
  cases hi : P.info? t with
  | none => simp [hi] at h
  | some i => simp [hi] at h; exact ⟨i, rfl, h⟩
theorem zero_info {t : TypeId} {a : AV} (h : zeroOf P t = some a) : ∃ i z, P.info? t = some i ∧ i.zero = some z ∧ ofValue z = some a := by
  unfold zeroOf at h
  cases hi : P.info? t with
  | none => simp [hi] at h
  | some i =>
    cases hz : i.zero with
    | none => simp [hi, hz] at h
    | some z => simp [hi, hz] at h; exact ⟨i, z, rfl, hz, h⟩

theorem run_part {t : TypeId} {off m : Nat} {g : Bool} (h1 : sizeT P t = some m) (h2 : aggT P t = some g) {cs : List AV} {us : Array Value} (hv : VRs G n E cs us.toList) {v : AV} (h : Am.part cs off m g = some v) :
    ∃ u, (Go.part t us off).run P w = .ok u w ∧ VR G n E v u := by
  unfold Am.part at h
  cases g with
  | true =>
    simp only [if_true] at h
    split at h
    · simp at h
      subst h
      refine ⟨.agg (us.extract off (off + m)), by simp [Go.part, run_isAgg h2, run_sizeOf h1], ⟨_, rfl, ?_⟩⟩
      have : (us.extract off (off + m)).toList = (us.toList.drop off).take m := by
        simp
      rw [this]
      exact (hv.drop off).take m
    · cases h
  | false =>
    simp only [Bool.false_eq_true, if_false] at h
    obtain ⟨u, e, hu⟩ := hv.get _ _ h
    refine ⟨u, ?_, hu⟩
    have : us[off]? = some u := by rw [← Array.getElem?_toList]; exact e
    simp [Go.part, run_isAgg h2, this]

/-! ### Structs and arrays that are equal -/
theorem run_eqField {k : CK} {t : TypeId} (ht : ckT P t = some k) {a b : AV} {r : Bool} {d : Nat} (h : eqCells [k] [a] [b] = some r) {u v : Value} (hu : VR G n E a u) (hv : VR G n E b v) :
    (Op.equalIn (d + 1) t u v).run P w = .ok r w := by
  unfold ckT at ht
  cases hd : P.underlying t with
  | none => simp [hd] at ht
  | some ds =>
    cases ds <;> simp [hd] at ht <;> subst ht
    · cases a <;> cases b <;> simp [eqCells] at h
      rename_i x y
      rw [show u = _ from hu, show v = _ from hv, run_equalIn_bool' w d t x y hd]
      congr 1
      by_cases e : x = y
      · subst e; simp at h; rw [h]; simp
      · simp [e] at h; rw [h]; simp [e]
    · cases a <;> cases b <;> simp [eqCells] at h
      rename_i k x l y
      by_cases hk : k = l
      · subst hk
        rw [show u = _ from hu, show v = _ from hv, run_equalIn_int w d t k _ x y hd]
        congr 1
        by_cases e : x = y
        · subst e; simp at h; rw [h]; simp
        · simp [e] at h; rw [h]; simp [e]
      · simp [hk] at h
    · cases a <;> cases b <;> simp [eqCells] at h
      rename_i x y
      rw [show u = _ from hu, show v = _ from hv, run_equalIn_string w d t _ _ hd, bs_toList, bs_toList]
      congr 1
      by_cases e : x = y
      · subst e; simp at h; rw [h]; simp
      · simp [e] at h; rw [h]; simp [e]

theorem eqCells_cons {k : CK} {ks : List CK} {as bs : List AV} {r : Bool} (h : eqCells (k :: ks) as bs = some r) :
    ∃ a as' b bs', as = a :: as' ∧ bs = b :: bs' ∧ ((eqCells [k] [a] [b] = some false ∧ r = false) ∨ (eqCells [k] [a] [b] = some true ∧ eqCells ks as' bs' = some r)) := by
  unfold eqCells at h
  split at h
  · cases ‹k :: ks = []›
  · rename_i e
    simp at e
    obtain ⟨rfl, rfl⟩ := e
    split at h
    · rename_i hk; subst hk
      split at h
      · rename_i e; exact ⟨_, _, _, _, rfl, rfl, .inr ⟨by simp [eqCells, e], h⟩⟩
      · rename_i e; simp at h; exact ⟨_, _, _, _, rfl, rfl, .inl ⟨by simp [eqCells, e], h⟩⟩
    · cases h
  · rename_i e
    simp at e
    obtain ⟨rfl, rfl⟩ := e
    split at h
    · rename_i e; exact ⟨_, _, _, _, rfl, rfl, .inr ⟨by simp [eqCells, e], h⟩⟩
    · rename_i e; simp at h; exact ⟨_, _, _, _, rfl, rfl, .inl ⟨by simp [eqCells, e], h⟩⟩
  · rename_i e
    simp at e
    obtain ⟨rfl, rfl⟩ := e
    split at h
    · rename_i e; exact ⟨_, _, _, _, rfl, rfl, .inr ⟨by simp [eqCells, e], h⟩⟩
    · rename_i e; simp at h; exact ⟨_, _, _, _, rfl, rfl, .inl ⟨by simp [eqCells, e], h⟩⟩
  · cases h

theorem ckT_agg {t : TypeId} {k : CK} (h : ckT P t = some k) : aggT P t = some false := by
  unfold ckT at h
  unfold aggT
  cases hd : P.underlying t with
  | none => simp [hd] at h
  | some d => cases d <;> simp [hd] at h <;> rfl

theorem run_part1 {t : TypeId} {k : CK} (h2 : ckT P t = some k) {off : Nat} {us : Array Value} {u : Value} (hu : us.toList[off]? = some u) : (Go.part t us off).run P w = .ok u w := by
  have : us[off]? = some u := by rw [← Array.getElem?_toList]; exact hu
  simp [Go.part, run_isAgg (ckT_agg h2), this]

theorem run_eqFields {d : Nat} {xs ys : Array Value} : ∀ (fs : List Field) (m : Nat) (ks : List CK) (as bs : List AV) (r : Bool), flatFields P m fs = some ks → eqCells ks as bs = some r →
    VRs G n E as (xs.toList.drop m) → VRs G n E bs (ys.toList.drop m) → (Op.eqFields (d + 1) xs ys fs).run P w = .ok r w
  | [], m, ks, as, bs, r, hf, he, _, _ => by
    simp [flatFields] at hf; subst hf
    unfold eqCells at he
    split at he <;> simp_all [Op.eqFields]
  | f :: fs, m, ks, as, bs, r, hf, he, hx, hy => by
    unfold flatFields at hf
    split at hf
    · rename_i hc
      cases h1 : ckT P f.type with
      | none => simp [h1] at hf
      | some k =>
        cases h2 : flatFields P (m + 1) fs with
        | none => simp [h1, h2] at hf
        | some ks' =>
          simp [h1, h2] at hf
          subst hf
          obtain ⟨a, as', b, bs', rfl, rfl, hor⟩ := eqCells_cons he
          obtain ⟨u, us', e1, v1, v2⟩ := hx
          obtain ⟨v, vs', e2, v3, v4⟩ := hy
          have g1 : xs.toList[m]? = some u := by rw [← List.head?_drop, e1]; rfl
          have g2 : ys.toList[m]? = some v := by rw [← List.head?_drop, e2]; rfl
          have t1 : xs.toList.drop (m + 1) = us' := by rw [← List.tail_drop, e1]; rfl
          have t2 : ys.toList.drop (m + 1) = vs' := by rw [← List.tail_drop, e2]; rfl
          have p1 := run_part1 (w := w) h1 g1
          have p2 := run_part1 (w := w) h1 g2
          simp only [Op.eqFields, hc.1, ne_eq, not_false_eq_true, if_true, Sem.run_bind, hc.2, p1, p2, Result.andThen_ok]
          rcases hor with ⟨q, rfl⟩ | ⟨q, q'⟩
          · rw [run_eqField h1 q v1 v3]; simp
          · rw [run_eqField h1 q v1 v3]
            simp only [Result.andThen_ok, Bool.not_true, Bool.false_eq_true, if_false]
            exact run_eqFields fs (m + 1) ks' as' bs' r h2 q' (by rw [t1]; exact v2) (by rw [t2]; exact v4)
    · cases hf

theorem run_eqItems {d : Nat} {xs ys : Array Value} {e : TypeId} {k : CK} (hk : ckT P e = some k) : ∀ (len m : Nat) (as bs : List AV) (r : Bool), eqCells (List.replicate len k) as bs = some r →
    VRs G n E as (xs.toList.drop m) → VRs G n E bs (ys.toList.drop m) → (Op.eqItems (d + 1) e 1 xs ys (List.range' m len)).run P w = .ok r w
  | 0, m, as, bs, r, he, _, _ => by
    unfold eqCells at he
    simp only [List.replicate_zero] at he
    split at he <;> simp_all [Op.eqItems]
  | len + 1, m, as, bs, r, he, hx, hy => by
    rw [List.replicate_succ] at he
    obtain ⟨a, as', b, bs', rfl, rfl, hor⟩ := eqCells_cons he
    obtain ⟨u, us', e1, v1, v2⟩ := hx
    obtain ⟨v, vs', e2, v3, v4⟩ := hy
    have g1 : xs.toList[m]? = some u := by rw [← List.head?_drop, e1]; rfl
    have g2 : ys.toList[m]? = some v := by rw [← List.head?_drop, e2]; rfl
    have t1 : xs.toList.drop (m + 1) = us' := by rw [← List.tail_drop, e1]; rfl
    have t2 : ys.toList.drop (m + 1) = vs' := by rw [← List.tail_drop, e2]; rfl
    have p1 := run_part1 (w := w) hk g1
    have p2 := run_part1 (w := w) hk g2
    simp only [List.range'_succ, Op.eqItems, Nat.mul_one, Sem.run_bind, p1, p2, Result.andThen_ok]
    rcases hor with ⟨q, rfl⟩ | ⟨q, q'⟩
    · rw [run_eqField hk q v1 v3]; simp
    · rw [run_eqField hk q v1 v3]
      simp only [Result.andThen_ok, Bool.not_true, Bool.false_eq_true, if_false]
      exact run_eqItems hk len (m + 1) as' bs' r q' (by rw [t1]; exact v2) (by rw [t2]; exact v4)

theorem run_eqCells {op : BinOp} (ho : op = .eql ∨ op = .neq) {t : TypeId} {ks : List CK} (hf : structFlat P t = some ks) {as bs : List AV} {r : Bool} (h : eqCells ks as bs = some r) {xs ys : Array Value}
    (hx : VRs G n E as xs.toList) (hy : VRs G n E bs ys.toList) (x y : Operand) :
    ((do eqGuard op t x y (.agg xs) (.agg ys); Go.binOp op t (.agg xs) (.agg ys) : Sem Value)).run P w = .ok (.bool (r != (op == .neq))) w := by
  have main : P.eqGuardType P.depth t = false ∧ (Op.equalIn 10000 t (.agg xs) (.agg ys)).run P w = .ok r w := by
    unfold structFlat at hf
    cases hd : P.underlying t with
    | none => simp [hd] at hf
    | some d =>
      cases d <;> simp only [hd, reduceCtorEq] at hf
      · rename_i len e
        split at hf
        · rename_i hc
          refine ⟨hc.1, ?_⟩
          cases hk : ckT P e with
          | none => simp [hk] at hf
          | some k =>
            simp [hk] at hf
            subst hf
            obtain ⟨i, hi, hs⟩ := info_size hc.2
            have hce : P.cellsOf e = 1 := by simp [Program.cellsOf, hi, hs]
            rw [show (10000 : Nat) = 9999 + 1 from rfl, run_equalIn_array w 9999 xs ys hd hi, hce, show (9999 : Nat) = 9998 + 1 from rfl, List.range_eq_range']
            exact run_eqItems hk len 0 as bs r h (by simpa using hx) (by simpa using hy)
        · cases hf
      · rename_i fs
        split at hf
        · rename_i hc
          refine ⟨hc.2, ?_⟩
          have hfs : P.fieldsOf t = fs := by simp [Program.fieldsOf, hd]
          rw [show (10000 : Nat) = 9999 + 1 from rfl, run_equalIn_struct w 9999 t xs ys (by rw [hfs]; exact hd) hc.1, hfs, show (9999 : Nat) = 9998 + 1 from rfl]
          exact run_eqFields fs.toList 0 ks as bs r hf h (by simpa using hx) (by simpa using hy)
        · cases hf
  rw [Sem.run_bind, run_eqGuard_agg w op t x y xs ys main.1, Result.andThen_ok]
  rcases ho with rfl | rfl
  · rw [run_eql_struct, main.2]; simp; cases r <;> rfl
  · rw [run_neq_struct, main.2]; simp

end Go.Am
