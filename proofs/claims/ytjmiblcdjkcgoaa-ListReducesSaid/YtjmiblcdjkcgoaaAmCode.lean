/- What the small machine's code does, the model's code does: regions in every order, branches, loops, calls. -/
import Derived.Test.YtjmiblcdjkcgoaaAmOp
import Derived.Test.YtjmiblcdjkcgoaaAmReg
import Derived.Orders
set_option linter.unusedVariables false
set_option linter.unusedSimpArgs false
namespace Go.Am
open Go.RowKit
variable {G : Nat → Nat} {P : Program}

/-- What a call leaves. -/
def Back (P : Program) (G : Nat → Nat) (B : Nat) (w0 : World) (E : Nat → Ent) (H : AHeap) (w : World) (s : Sem Next) (v : AV) (H' : AHeap) : Prop :=
  (∃ u w' E', s.run P w = .ok (.value u) w' ∧ VR G H'.next E' v u ∧ H.next ≤ H'.next ∧ Ext H.next E E' ∧ HRel G B w0 E' H' w') ∨
  (∃ f us, s.run P w = .ok (.enter f us) w ∧ Calls P f us w fun e w' => ∃ u E', e = .returned u ∧ VR G H'.next E' v u ∧ H.next ≤ H'.next ∧ Ext H.next E E' ∧ HRel G B w0 E' H' w')

/-- The small machine's calls are the model's. -/
def CallOk (P : Program) (G : Nat → Nat) (C : CallF) : Prop :=
  ∀ f args H v H', C (G f) args H = some (v, H') → ∀ B w0 E w us, HRel G B w0 E H w → VRs G H.next E args us → Back P G B w0 E H w (callFunc f us.toArray) v H'

section
variable {B : Nat} {w0 : World} {C : CallF}

/-- How a state of the small machine stands to the model's. -/
structure StR (G : Nat → Nat) (B : Nat) (w0 : World) (nt : Nat) (E : Nat → Ent) (s : AState) (a : Act) (w : World) : Prop where
  env : EnvR G s.2.next E s.1 a
  heap : HRel G B w0 E s.2 w
  nt : nt ≤ a.tmps.size
  defers : a.defers = []

theorem EnvR.put {n : Nat} {E : Nat → Ent} {env : Env} {a : Act} (h : EnvR G n E env a) {d : Option Nat} {v : AV} {u : Value} (hd : ∀ t, d = some t → t < a.tmps.size) (hv : VR G n E v u) : EnvR G n E (env.put d v) (a.put d u) := by
  cases d with
  | none => exact h
  | some t =>
    intro i
    have ht := hd t rfl
    simp only [Env.put, Act.put, upd]
    by_cases e : i = t
    · subst e
      rw [if_pos rfl]
      simp [Array.getD, ht]
      exact hv
    · rw [if_neg e]
      have := h i
      have e2 : (a.tmps.setIfInBounds t u).getD i Go.undef = a.tmps.getD i Go.undef := by
        simp [Array.getD_eq_getD_getElem?, Array.getElem?_setIfInBounds_ne (Ne.symm e)]
      rw [e2]; exact this
theorem EnvR.mono {n m : Nat} {E E' : Nat → Ent} {env : Env} {a : Act} (h : EnvR G n E env a) (hn : n ≤ m) (hE : Ext n E E') : EnvR G m E' env a := fun i => (h i).mono hn hE

theorem put_size (a : Act) (d : Option Nat) (u : Value) : (a.put d u).tmps.size = a.tmps.size := by cases d <;> simp [Act.put]
theorem put_defers (a : Act) (d : Option Nat) (u : Value) : (a.put d u).defers = a.defers := by cases d <;> rfl

/-- A region's operations beside their translation. -/
structure OpsR (P : Program) (G : Nat → Nat) (nt : Nat) (ops : Array Oper) (l : List AOper) : Prop where
  len : l.length = ops.size
  op : ∀ (i : Nat) o ao, ops[i]? = some o → l[i]? = some ao → compileOp P G o = some (ao.opc, ao.args) ∧ ao.dst = o.dst ∧ (∀ d, o.dst = some d → d < nt) ∧ compileGuard ops o.guard = some ao.guard

theorem mapO_get {α β : Type} {f : α → Option β} : ∀ {xs : List α} {ys : List β}, mapO f xs = some ys → ys.length = xs.length ∧ ∀ (i : Nat) x y, xs[i]? = some x → ys[i]? = some y → f x = some y
  | [], ys, h => by simp [mapO] at h; subst h; exact ⟨rfl, fun i x y hx => by simp at hx⟩
  | x :: xs, ys, h => by
    unfold mapO at h
    cases h1 : f x with
    | none => simp [h1] at h
    | some y =>
      cases h2 : mapO f xs with
      | none => simp [h1, h2] at h
      | some l =>
        simp [h1, h2] at h
        subst h
        obtain ⟨k1, k2⟩ := mapO_get h2
        refine ⟨by simp [k1], fun i a b ha hb => ?_⟩
        cases i with
        | zero => simp at ha hb; subst ha; subst hb; exact h1
        | succ i => exact k2 i a b (by simpa using ha) (by simpa using hb)

theorem allDeps_len (ops : Array Oper) : (allDeps ops).length = ops.size := by
  unfold allDeps
  have : ∀ (l : List Oper) (acc : List (List Nat)), (l.foldl (fun acc o => acc ++ [closeDeps ops acc o]) acc).length = acc.length + l.length := by
    intro l
    induction l with
    | nil => intro acc; simp
    | cons o l ih => intro acc; rw [List.foldl_cons, ih]; simp; omega
  rw [this]; simp

theorem compileOps_R {nt : Nat} {ops : Array Oper} {l : List AOper} (h : compileOps P G nt ops = some l) : OpsR P G nt ops l := by
  unfold compileOps at h
  obtain ⟨h1, h2⟩ := mapO_get h
  have hz : (ops.toList.zip (allDeps ops)).length = ops.size := by rw [List.length_zip, allDeps_len]; simp
  refine ⟨by rw [h1, hz], fun i o ao ho ha => ?_⟩
  have hi : i < ops.size := (Array.getElem?_eq_some_iff.1 ho).1
  have hdl : i < (allDeps ops).length := by rw [allDeps_len]; exact hi
  have hzi : (ops.toList.zip (allDeps ops))[i]? = some (o, (allDeps ops)[i]) := by
    rw [List.getElem?_zip_eq_some]
    exact ⟨by rw [Array.getElem?_toList]; exact ho, List.getElem?_eq_getElem hdl⟩
  have := h2 i _ ao hzi ha
  unfold compileOper at this
  simp only at this
  split at this
  · rename_i opc args g q1 q2
    split at this
    · rename_i q3
      simp at this
      subst this
      refine ⟨q1, rfl, fun d hd => ?_, q2⟩
      rw [hd] at q3
      simpa [dstOk] using q3
    · cases this
  · cases this

theorem wanted_eq {nt : Nat} {E : Nat → Ent} {s : AState} {a : Act} {w : World} (hr : StR G B w0 nt E s a w) {ops : Array Oper} {g : Option (Nat × Bool)} {ag : Option (Nat × Bool)} (hg : compileGuard ops g = some ag) {b : Bool} (hw : Am.wanted s.1 ag = some b) (o : Oper) (ho : o.guard = g) :
    Region.wanted o (yielded ops a.tmps) = b := by
  cases g with
  | none =>
    simp [compileGuard] at hg; subst hg
    simp [Am.wanted] at hw; subst hw
    simp [Region.wanted, ho]
  | some p =>
    obtain ⟨j, wnt⟩ := p
    simp only [compileGuard] at hg
    cases hj : ops[j]? with
    | none => simp [hj] at hg
    | some oj =>
      cases hd : oj.dst with
      | none => simp [hj, hd] at hg
      | some t =>
        simp [hj, hd] at hg
        subst hg
        have hv := hr.env t
        have hy : ∀ u : Value, a.tmps.getD t Go.undef = u → (∀ b, u ≠ .bool b) → yielded ops a.tmps j = none := by
          intro u hu hn
          unfold yielded
          simp only [hj, hd, Option.bind_some]
          cases ht : a.tmps[t]? with
          | none => rfl
          | some z =>
            have : z = u := by rw [← hu, Array.getD_eq_getD_getElem?, ht]; rfl
            subst this
            cases z <;> first | rfl | exact absurd rfl (hn _)
        have fin : yielded ops a.tmps j = none → b = false → Region.wanted o (yielded ops a.tmps) = b := by
          intro h1 h2; subst h2; simp [Region.wanted, ho, h1]
        simp only [Am.wanted] at hw
        cases he : s.1 t <;> rw [he] at hw hv <;> simp only [Option.some.injEq, reduceCtorEq] at hw
        case bool x =>
          subst hw
          have hu : a.tmps.getD t Go.undef = .bool x := hv
          have ht : a.tmps[t]? = some (.bool x) := by
            rw [Array.getD_eq_getD_getElem?] at hu
            cases ht : a.tmps[t]? with
            | none => rw [ht] at hu; simp [Go.undef] at hu
            | some z => rw [ht] at hu; simpa using hu
          simp [Region.wanted, ho, yielded, hj, hd, ht]
        case int k i => exact fin (hy _ hv (by simp)) hw.symm
        case str l => exact fin (hy _ hv (by simp)) hw.symm
        case ptr p =>
          cases p with
          | none => exact fin (hy _ hv (by simp)) hw.symm
          | some p => exact fin (hy _ hv.2 (by simp)) hw.symm
        case slc p z l c =>
          cases p with
          | none => exact fin (hy _ hv.2 (by simp)) hw.symm
          | some p => obtain ⟨_, _, _, e, _⟩ := hv; exact fin (hy _ e (by simp)) hw.symm
        case map m =>
          cases m with
          | none => exact fin (hy _ hv (by simp)) hw.symm
          | some p => exact fin (hy _ hv.2 (by simp)) hw.symm
        case fn f x y => obtain ⟨_, _, _, _, e, _⟩ := hv; exact fin (hy _ e (by simp)) hw.symm
        case nilFn => exact fin (hy _ hv (by simp)) hw.symm
        case agg cs => obtain ⟨_, e, _⟩ := hv; exact fin (hy _ e (by simp)) hw.symm
        case tup cs => obtain ⟨_, e, _⟩ := hv; exact fin (hy _ e (by simp)) hw.symm
        case nilI => exact fin (hy _ hv (by simp)) hw.symm
        case iface t' z => obtain ⟨_, e, _⟩ := hv; exact fin (hy _ e (by simp)) hw.symm

/-- A call of a function value. -/
theorem compileOp_call {o : Oper} {args : List AOpd} (hc : compileOp P G o = some (.w .call, args)) : ∃ c f, o.op = .call c ∧ c.callee = .value f ∧ opds G (f :: c.args.toList) = some args := by
  have no1 : ∀ {p : AOpc} {x : Operand}, p ≠ .w .call → with1 G p x = some (.w .call, args) → False := by
    intro p x hp h
    obtain ⟨_, _, e, _⟩ := with1_eq h
    exact hp e.symm
  have no2 : ∀ {p : AOpc} {x y : Operand}, p ≠ .w .call → with2 G p x y = some (.w .call, args) → False := by
    intro p x y hp h
    obtain ⟨_, _, _, _, e, _⟩ := with2_eq h
    exact hp e.symm
  have nos : ∀ {p : AOpc} {xs : List Operand}, p ≠ .w .call → withs G p xs = some (.w .call, args) → False := fun hp h => hp (withs_eq h).2.symm
  unfold compileOp at hc
  split at hc
  case h_28 c hop =>
    unfold compileCall at hc
    cases hcal : c.callee with
    | value f =>
      simp only [hcal] at hc
      exact ⟨c, f, hop, hcal, (withs_eq hc).1⟩
    | invoke r m => simp [hcal] at hc
    | builtin b =>
      simp only [hcal] at hc
      exfalso
      repeat' split at hc
      all_goals first
        | (cases hc; done)
        | (exact no1 (by simp) hc)
        | (exact no2 (by simp) hc)
        | (exact nos (by simp) hc)
        | (simp at hc; done)
  all_goals
    exfalso
    try unfold compileBin at hc
    try unfold compileConv at hc
    repeat' split at hc
    all_goals first
      | (cases hc; done)
      | (exact no1 (by simp) hc)
      | (exact no2 (by simp) hc)
      | (exact nos (by simp) hc)
      | (simp at hc; done)

/-- ONE OPERATION, in the model's order. -/
theorem step_sound (hC : CallOk P G C) {nt : Nat} {ops : Array Oper} {l : List AOper} (hops : OpsR P G nt ops l) {i : Nat} {o : Oper} {ao : AOper} (ho : ops[i]? = some o) (ha : l[i]? = some ao) {E : Nat → Ent} {s s' : AState} {a : Act} {w : World} (hr : StR G B w0 nt E s a w) (hs : aop C ao s = some s')
    {K : Act → World → Prop} {Q : Exit → Act → World → Prop} (hK : ∀ a' w' E', Ext s.2.next E E' → s.2.next ≤ s'.2.next → StR G B w0 nt E' s' a' w' → K a' w') : wpOp P ops Q i K a w := by
  obtain ⟨c1, c2, c3, c4⟩ := hops.op i o ao ho ha
  have hdst : ∀ t, ao.dst = some t → t < a.tmps.size := fun t ht => Nat.lt_of_lt_of_le (c3 t (by rw [← c2]; exact ht)) hr.nt
  unfold aop at hs
  cases hst : step1 C ao s with
  | none => simp [hst] at hs
  | some p =>
    obtain ⟨v, H'⟩ := p
    simp [hst] at hs
    subst hs
    have done : ∀ u w' E', VR G H'.next E' v u → s.2.next ≤ H'.next → Ext s.2.next E E' → HRel G B w0 E' H' w' → K (a.put o.dst u) w' := by
      intro u w' E' q1 q2 q3 q4
      refine hK _ _ E' q3 q2 ⟨?_, q4, by rw [put_size]; exact hr.nt, by rw [put_defers]; exact hr.defers⟩
      rw [← c2]
      exact (hr.env.mono q2 q3).put hdst q1
    unfold wpOp
    simp only [ho]
    unfold step1 at hst
    cases hw : Am.wanted s.1 ao.guard with
    | none => rw [hw] at hst; cases hst
    | some b =>
      have hwb := wanted_eq hr c4 hw o rfl
      rw [hw] at hst
      cases b with
      | false =>
        simp only [Option.some.injEq, Prod.mk.injEq] at hst
        obtain ⟨rfl, rfl⟩ := hst
        rw [hwb]
        simp only [Bool.false_eq_true, if_false]
        exact done Go.undef w E ⟨#[], rfl, rfl⟩ (Nat.le_refl _) (Ext.refl _ _) hr.heap
      | true =>
        simp only at hst
        rw [hwb]
        simp only [if_true]
        left
        by_cases hcall : ao.opc = .w .call
        · rw [hcall] at c1 hst
          obtain ⟨c, f, hop, hcal, hargs⟩ := compileOp_call c1
          have hv := opds_VRs hr.env hargs
          rw [List.map_cons] at hv
          obtain ⟨a1, as, e1, v1, hv⟩ := hv.inv_cons
          rw [e1] at hst
          simp only [osem] at hst
          cases a1 <;> simp only [wsem, reduceCtorEq] at hst
          rename_i fg first caps
          obtain ⟨f', us, ws, g1, g2, g3, g4⟩ := v1
          subst g1
          have hb := hC f' _ _ _ _ hst B w0 E w (us.toList ++ c.args.toList.map a.eval ++ ws.toList) hr.heap ((g3.append hv).append g4)
          have hexec : execOp a.eval o = callFunc f' (us.toList ++ c.args.toList.map a.eval ++ ws.toList).toArray := by
            simp only [execOp, hop, resolve, hcal, g2, Deferred.ofValue]
            have : us ++ c.args.map a.eval ++ ws = (us.toList ++ c.args.toList.map a.eval ++ ws.toList).toArray := by
              apply Array.ext'; simp
            rw [← this]
            rfl
          unfold Oper.wp
          rw [hexec]
          rcases hb with ⟨u, w', E', r1, r2, r3, r4, r5⟩ | ⟨f2, us2, r1, r2⟩
          · rw [r1]
            exact done u w' E' r2 r3 r4 r5
          · rw [r1]
            refine Calls.mono r2 ?_
            rintro e w' ⟨u, E', rfl, q2, q3, q4, q5⟩
            exact done u w' E' q2 q3 q4 q5
        · obtain ⟨u, w', E', r1, r2, r3, r4, r5⟩ := op_sound (o := o) (a := a) c1 hcall hr.env hr.heap hst
          unfold Oper.wp
          rcases r1 with r1 | ⟨r1, rfl⟩
          · rw [r1]; exact done u w' E' r2 r3 r4 r5
          · rw [r1]; exact done _ w' E' r2 r3 r4 r5

/-- The text's order. -/
theorem text_sound (hC : CallOk P G C) {nt : Nat} {ops : Array Oper} {l : List AOper} (hops : OpsR P G nt ops l) {Q : Exit → Act → World → Prop} : ∀ (r : List AOper) (k : Nat) (E : Nat → Ent) (s s' : AState) (a : Act) (w : World), l.drop k = r → StR G B w0 nt E s a w → aops C r s = some s' →
    (∀ a' w' E', Ext s.2.next E E' → s.2.next ≤ s'.2.next → StR G B w0 nt E' s' a' w' → Q .normal a' w') → wpOps P ops Q (List.range' k r.length) a w
  | [], k, E, s, s', a, w, _, hr, hs, hQ => by
    simp [aops] at hs
    subst hs
    exact hQ a w E (Ext.refl _ _) (Nat.le_refl _) hr
  | ao :: r, k, E, s, s', a, w, hd, hr, hs, hQ => by
    unfold aops at hs
    cases h1 : aop C ao s with
    | none => simp [h1] at hs
    | some s1 =>
      simp only [h1] at hs
      have hk : l[k]? = some ao := by rw [← List.head?_drop, hd]; rfl
      have hkl : k < l.length := (List.getElem?_eq_some_iff.1 hk).1
      have ho : ops[k]? = some (ops[k]'(by rw [← hops.len]; exact hkl)) := Array.getElem?_eq_getElem _
      rw [List.length_cons, List.range'_succ, wpOps_cons]
      refine step_sound hC hops ho hk hr h1 (fun a' w' E' e1 e2 hr' => ?_)
      exact text_sound hC hops r (k + 1) E' s1 s' a' w' (by rw [← List.tail_drop, hd]; rfl) hr' hs (fun a2 w2 E2 q1 q2 q3 => hQ a2 w2 E2 (e1.trans q1 e2) (Nat.le_trans e2 q2) q3)

/-! ### Every order -/
/-- How many have not run. -/
def left (D : Nat → Bool) : Nat → Nat
  | 0 => 0
  | k + 1 => left D k + if D k then 0 else 1
theorem left_congr {D D' : Nat → Bool} : ∀ n, (∀ j, j < n → D j = D' j) → left D n = left D' n
  | 0, _ => rfl
  | n + 1, h => by unfold left; rw [left_congr n fun j hj => h j (by omega), h n (by omega)]
theorem left_step {D : Nat → Bool} {i : Nat} (hi : D i = false) : ∀ n, i < n → left (fun j => D j || j == i) n + 1 = left D n
  | n + 1, h => by
    unfold left
    by_cases e : i = n
    · subst e
      have : left (fun j => D j || j == i) i = left D i := left_congr i fun j hj => by
        have : (j == i) = false := by simp; omega
        simp [this]
      simp [this, hi]
    · have ih := left_step hi n (by omega)
      have : (n == i) = false := by simp; omega
      simp only [this, Bool.or_false]
      omega
theorem left_zero {D : Nat → Bool} : ∀ n, left D n = 0 → ∀ j, j < n → D j = true
  | n + 1, h, j, hj => by
    unfold left at h
    have h1 : left D n = 0 := by omega
    by_cases e : j = n
    · subst e
      cases hd : D j with
      | true => rfl
      | false => simp [hd] at h
    · exact left_zero n h1 j (by omega)

theorem edgesOk_dir {ops : Array Oper} {l : List AOper} (h : edgesOk ops l = true) {i : Nat} {o : Oper} {ao : AOper} (ho : ops[i]? = some o) (ha : l[i]? = some ao) :
    (∀ e ∈ o.after.toList, Region.binds .any e = true → e.on ∈ ao.deps) ∧ (∀ d ∈ ao.deps, ∃ e ∈ o.after.toList, Region.binds .any e = true ∧ (e.on = d ∨ ∃ b, l[e.on]? = some b ∧ d ∈ b.deps)) := by
  unfold edgesOk at h
  have := List.all_eq_true.1 h i (List.mem_range.2 (List.getElem?_eq_some_iff.1 ha).1)
  simp only [ho, ha, Bool.and_eq_true] at this
  obtain ⟨h1, h2⟩ := this
  refine ⟨fun e he hb => ?_, fun d hd => ?_⟩
  · have := List.all_eq_true.1 h1 e he
    simp [hb] at this
    exact this
  · have := List.all_eq_true.1 h2 d hd
    obtain ⟨e, he, hp⟩ := List.any_eq_true.1 this
    simp only [Bool.and_eq_true, Bool.or_eq_true, beq_iff_eq] at hp
    refine ⟨e, he, hp.1, ?_⟩
    rcases hp.2 with q | q
    · exact .inl q
    · cases hb : l[e.on]? with
      | none => simp [hb] at q
      | some b => simp [hb] at q; exact .inr ⟨b, rfl, q⟩

theorem any_sound (hC : CallOk P G C) {nt : Nat} {ops : Array Oper} {l : List AOper} (hops : OpsR P G nt ops l) (hck : regOk l = true) (hed : edgesOk ops l = true) {st : Nat → AState} {val : Nat → AV} (hran : Ran C l st val) (hfl : FloatsOk l st val)
    {Q : Exit → Act → World → Prop} {E0 : Nat → Ent} (hQ : ∀ a' w' E', Ext (st 0).2.next E0 E' → (st 0).2.next ≤ (st l.length).2.next → StR G B w0 nt E' (st l.length) a' w' → Q .normal a' w') :
    ∀ (fuel : Nat) (listed : Array Bool) (E : Nat → Ent) (a : Act) (w : World), listed.size = ops.size → left (fun j => listed.getD j false) l.length ≤ fuel → Closed l (fun j => listed.getD j false) →
      Ext (st 0).2.next E0 E → (st 0).2.next ≤ (stateOf l st val (fun j => listed.getD j false)).2.next → StR G B w0 nt E (stateOf l st val (fun j => listed.getD j false)) a w → wpAny P .any ops Q fuel listed a w := by
  have chk := regOk_chk hck
  intro fuel
  induction fuel with
  | zero =>
    intro listed E a w hsz hleft hcl hE hn hr
    have hall := left_zero (D := fun j => listed.getD j false) l.length (by omega)
    have hsa := stateOf_all (st := st) hran hall
    unfold wpAny
    refine ⟨?_, ?_⟩
    · unfold Region.ready
      rw [List.filter_eq_nil_iff]
      intro i hi
      have hil : i < l.length := by rw [hops.len]; exact List.mem_range.1 hi
      have h1 := hall i hil
      have : listed.getD i true = true := by
        rw [Array.getD_eq_getD_getElem?] at h1 ⊢
        cases hq : listed[i]? with
        | none => rw [hq] at h1; simp at h1
        | some b => rw [hq] at h1; simpa using h1
      simp [this]
    · rw [hsa] at hr hn
      exact hQ a w E hE hn hr
  | succ fuel ih =>
    intro listed E a w hsz hleft hcl hE hn hr
    unfold wpAny
    -- what is ready
    have rdy : ∀ i, i ∈ Region.ready .any ops listed ↔ i < ops.size ∧ listed.getD i false = false ∧ ∀ o, ops[i]? = some o → ∀ e ∈ o.after.toList, Region.binds .any e = true → listed.getD e.on false = true := by
      intro i
      unfold Region.ready
      rw [List.mem_filter, List.mem_range]
      constructor
      · rintro ⟨hi, hb⟩
        rw [Bool.and_eq_true] at hb
        have hlt : i < listed.size := by omega
        refine ⟨hi, by simpa [Array.getD, hlt] using hb.1, fun o ho e he hbd => ?_⟩
        have h2 := hb.2
        rw [ho] at h2
        simp only [Option.map_some, Option.getD_some] at h2
        have := (Array.all_eq_true_iff_forall_mem.1 h2) e (Array.mem_toList_iff.1 he)
        simpa [hbd] using this
      · rintro ⟨hi, hb, hc⟩
        have hlt : i < listed.size := by omega
        refine ⟨hi, ?_⟩
        rw [Bool.and_eq_true]
        refine ⟨by simpa [Array.getD, hlt] using hb, ?_⟩
        have ho : ops[i]? = some ops[i] := Array.getElem?_eq_getElem hi
        rw [ho]
        simp only [Option.map_some, Option.getD_some]
        rw [Array.all_eq_true_iff_forall_mem]
        intro e he
        have := hc _ ho e (Array.mem_toList_iff.2 he)
        cases hb : Region.binds .any e with
        | false => simp
        | true => simp [this hb]
    refine ⟨fun hnil => ?_, fun i hi => ?_⟩
    · -- none is ready: all have run
      have hall : ∀ j, j < l.length → listed.getD j false = true := by
        intro j hj
        induction j using Nat.strongRecOn with
        | _ j ihj =>
          cases hd : listed.getD j false with
          | true => rfl
          | false =>
            exfalso
            have hjo : j < ops.size := by rw [← hops.len]; exact hj
            have : j ∈ Region.ready .any ops listed := by
              rw [rdy]
              refine ⟨hjo, hd, fun o ho e he hb => ?_⟩
              have hla : l[j]? = some (l[j]'hj) := List.getElem?_eq_getElem _
              have hm := (edgesOk_dir hed ho hla).1 e he hb
              have hlt := (chk.back j _ hla e.on hm).1
              exact ihj e.on hlt (by omega)
            rw [hnil] at this
            cases this
      have hsa := stateOf_all (st := st) hran hall
      rw [hsa] at hr hn
      exact hQ a w E hE hn hr
    · obtain ⟨hio, hnl, hed'⟩ := (rdy i).1 hi
      have hil : i < l.length := by rw [hops.len]; exact hio
      have ho : ops[i]? = some ops[i] := Array.getElem?_eq_getElem hio
      have ha : l[i]? = some (l[i]'hil) := List.getElem?_eq_getElem _
      obtain ⟨d1, d2⟩ := edgesOk_dir hed ho ha
      have hdeps : ∀ d ∈ (l[i]'hil).deps, listed.getD d false = true := by
        intro d hd
        obtain ⟨e, he, hb, hor⟩ := d2 d hd
        have hon := hed' _ ho e he hb
        rcases hor with rfl | ⟨b, hb2, hdb⟩
        · exact hon
        · exact hcl e.on b hb2 hon d hdb
      have hstep := stateOf_step hran chk hfl hcl ha hnl hdeps
      have hD' : ∀ j, (listed.setIfInBounds i true).getD j false = (listed.getD j false || j == i) := by
        intro j
        by_cases e : j = i
        · subst e
          simp [Array.getD, show j < listed.size by omega]
        · have : (j == i) = false := by simpa using e
          rw [this, Bool.or_false, Array.getD_eq_getD_getElem?, Array.getD_eq_getD_getElem?, Array.getElem?_setIfInBounds_ne (Ne.symm e)]
      have hfun : (fun j => (listed.setIfInBounds i true).getD j false) = (fun j => listed.getD j false || j == i) := funext hD'
      refine step_sound hC hops ho ha hr hstep (fun a' w' E' e1 e2 hr' => ?_)
      refine ih _ E' a' w' (by simp [hsz]) ?_ ?_ (hE.trans e1 hn) ?_ ?_
      · rw [hfun]
        have := left_step (D := fun j => listed.getD j false) hnl l.length hil
        omega
      · rw [hfun]
        intro j x hx hj d hd
        simp only [Bool.or_eq_true, beq_iff_eq] at hj ⊢
        rcases hj with hj | rfl
        · exact .inl (hcl j x hx hj d hd)
        · rw [ha] at hx; simp at hx; subst hx
          exact .inl (hdeps d hd)
      · rw [hfun]; exact Nat.le_trans hn e2
      · rw [hfun]; exact hr'

end
end Go.Am
