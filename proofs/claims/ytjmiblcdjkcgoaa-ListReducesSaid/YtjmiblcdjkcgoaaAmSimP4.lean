/- Each operation that does not look at the heap, as the translation makes it: it gives what the model's operation gives. -/
import Derived.Test.YtjmiblcdjkcgoaaAmSimP3
set_option linter.unusedVariables false
set_option linter.unusedSimpArgs false
namespace Go.Am
open Go.RowKit
variable {G : Nat → Nat} {P : Program}

theorem with1_eq {o opc : AOpc} {x : Operand} {args : List AOpd} (h : with1 G o x = some (opc, args)) : ∃ x', opd G x = some x' ∧ opc = o ∧ args = [x'] := by
  unfold with1 at h
  cases h1 : opd G x with
  | none => simp [h1] at h
  | some x' => simp [h1] at h; exact ⟨x', rfl, h.1.symm, h.2.symm⟩
theorem with2_eq {o opc : AOpc} {x y : Operand} {args : List AOpd} (h : with2 G o x y = some (opc, args)) : ∃ x' y', opd G x = some x' ∧ opd G y = some y' ∧ opc = o ∧ args = [x', y'] := by
  unfold with2 at h
  cases h1 : opd G x with
  | none => simp [h1] at h
  | some x' =>
    cases h2 : opd G y with
    | none => simp [h1, h2] at h
    | some y' => simp [h1, h2] at h; exact ⟨x', y', rfl, rfl, h.1.symm, h.2.symm⟩
theorem withs_eq {o opc : AOpc} {xs : List Operand} {args : List AOpd} (h : withs G o xs = some (opc, args)) : opds G xs = some args ∧ opc = o := by
  unfold withs at h
  cases h1 : opds G xs with
  | none => simp [h1] at h
  | some xs' => simp [h1] at h; exact ⟨by rw [h.2], h.1.symm⟩

theorem VRs.inv_cons {n : Nat} {E : Nat → Ent} {as : List AV} {u : Value} {us : List Value} (h : VRs G n E as (u :: us)) : ∃ a as', as = a :: as' ∧ VR G n E a u ∧ VRs G n E as' us := by
  cases as with
  | nil => cases (show u :: us = [] from h)
  | cons a as' =>
    obtain ⟨u', us', e, h1, h2⟩ := h
    simp at e
    obtain ⟨rfl, rfl⟩ := e
    exact ⟨a, as', rfl, h1, h2⟩
theorem VRs.inv_nil {n : Nat} {E : Nat → Ent} {as : List AV} (h : VRs G n E as []) : as = [] := by
  cases as with
  | nil => rfl
  | cons a as' => obtain ⟨_, _, e, _⟩ := h; cases e

/-- What an operation leaves: a value, the heap and the world behind it. -/
def Out (P : Program) (G : Nat → Nat) (B : Nat) (w0 : World) (E : Nat → Ent) (H : AHeap) (w : World) (s : Sem Next) (v : AV) (H' : AHeap) : Prop :=
  ∃ u w' E', (s.run P w = .ok (.value u) w' ∨ (s.run P w = .ok .skip w' ∧ u = Go.undef)) ∧ VR G H'.next E' v u ∧ H.next ≤ H'.next ∧ Ext H.next E E' ∧ HRel G B w0 E' H' w'

section
variable {B : Nat} {w0 w : World} {E : Nat → Ent} {H : AHeap}

theorem Out.pure (h : HRel G B w0 E H w) {s : Sem Next} {v : AV} {u : Value} (hr : s.run P w = .ok (.value u) w) (hv : VR G H.next E v u) : Out P G B w0 E H w s v H :=
  ⟨u, w, E, .inl hr, hv, Nat.le_refl _, Ext.refl _ _, h⟩

theorem osem_p {C : CallF} {o : POp} {vs : List AV} {v : AV} {H H' : AHeap} (h : osem C (.p o) vs H = some (v, H')) : psem o vs = some v ∧ H' = H := by
  unfold osem at h
  cases h1 : psem o vs with
  | none => simp [h1] at h
  | some x => simp [h1] at h; exact ⟨by rw [h.1], h.2.symm⟩
theorem osem_r {C : CallF} {o : ROp} {vs : List AV} {v : AV} {H H' : AHeap} (h : osem C (.r o) vs H = some (v, H')) : rsem o vs H = some v ∧ H' = H := by
  unfold osem at h
  cases h1 : rsem o vs H with
  | none => simp [h1] at h
  | some x => simp [h1] at h; exact ⟨by rw [h.1], h.2.symm⟩

variable {C : CallF} {o : Oper} {opc : AOpc} {args : List AOpd} {env : Env} {a : Act} {v : AV} {H' : AHeap}

theorem s_move (x : Operand) (hop : o.op = .move x ∨ o.op = .assign x) (hc : with1 G (.p .mv) x = some (opc, args)) (he : EnvR G H.next E env a) (h : HRel G B w0 E H w) (hs : osem C opc (args.map env.ev) H = some (v, H')) :
    Out P G B w0 E H w (execOp a.eval o) v H' := by
  obtain ⟨x', h1, rfl, rfl⟩ := with1_eq hc
  obtain ⟨h2, rfl⟩ := osem_p hs
  simp [psem] at h2
  subst h2
  refine Out.pure h (u := a.eval x) ?_ (opd_VR he h1)
  rcases hop with hop | hop <;> simp [execOp, hop]

theorem s_pick (c x y : Operand) (hop : o.op = .pick c x y) (hc : withs G (.p .pick) [c, x, y] = some (opc, args)) (he : EnvR G H.next E env a) (h : HRel G B w0 E H w) (hs : osem C opc (args.map env.ev) H = some (v, H')) :
    Out P G B w0 E H w (execOp a.eval o) v H' := by
  obtain ⟨h1, rfl⟩ := withs_eq hc
  obtain ⟨h2, rfl⟩ := osem_p hs
  have hv := opds_VRs he h1
  obtain ⟨a1, r1, e1, q2, hv⟩ := hv.inv_cons
  obtain ⟨a2, r2, rfl, q5, hv⟩ := hv.inv_cons
  obtain ⟨a3, r3, rfl, q8, hv⟩ := hv.inv_cons
  obtain rfl := hv.inv_nil
  rw [e1] at h2
  cases a1 <;> simp [psem] at h2
  rename_i b
  subst h2
  have hb : a.eval c = .bool b := q2
  cases b
  · exact Out.pure h (u := a.eval y) (by simp [execOp, hop, hb, asBool]) q8
  · exact Out.pure h (u := a.eval x) (by simp [execOp, hop, hb, asBool]) q5

theorem s_nilC (x : Operand) (hop : o.op = .nilCheck x) (hc : with1 G (.p .nilC) x = some (opc, args)) (he : EnvR G H.next E env a) (h : HRel G B w0 E H w) (hs : osem C opc (args.map env.ev) H = some (v, H')) :
    Out P G B w0 E H w (execOp a.eval o) v H' := by
  obtain ⟨x', h1, rfl, rfl⟩ := with1_eq hc
  obtain ⟨h2, rfl⟩ := osem_p hs
  have hv := opd_VR he h1
  simp only [List.map_cons, List.map_nil, psem] at h2
  have e : v = env.ev x' ∧ (execOp a.eval o).run P w = .ok (.value (a.eval x)) w := by
    generalize env.ev x' = z at *
    cases z with
    | undef => simp at h2
    | bool b => simp at h2; refine ⟨h2.symm, ?_⟩; rw [show a.eval x = _ from hv]; simp [execOp, hop, show a.eval x = _ from hv]
    | int k i => simp at h2; refine ⟨h2.symm, ?_⟩; rw [show a.eval x = _ from hv]; simp [execOp, hop, show a.eval x = _ from hv]
    | str s => simp at h2; refine ⟨h2.symm, ?_⟩; rw [show a.eval x = _ from hv]; simp [execOp, hop, show a.eval x = _ from hv]
    | ptr p =>
      cases p with
      | none => simp at h2
      | some p => simp at h2; refine ⟨h2.symm, ?_⟩; rw [hv.2]; simp [execOp, hop, hv.2]
    | slc p z l c =>
      simp at h2; refine ⟨h2.symm, ?_⟩
      cases p with
      | none => rw [hv.2]; simp [execOp, hop, hv.2]
      | some p => obtain ⟨_, a', c', e, _⟩ := hv; rw [e]; simp [execOp, hop, e]
    | map m =>
      simp at h2; refine ⟨h2.symm, ?_⟩
      cases m with
      | none => rw [show a.eval x = _ from hv]; simp [execOp, hop, show a.eval x = _ from hv]
      | some p => rw [hv.2]; simp [execOp, hop, hv.2]
    | fn f b c => simp at h2; refine ⟨h2.symm, ?_⟩; obtain ⟨f', us, ws, _, e, _⟩ := hv; rw [e]; simp [execOp, hop, e]
    | nilFn => simp at h2
    | agg cs => simp at h2; refine ⟨h2.symm, ?_⟩; obtain ⟨us, e, _⟩ := hv; rw [e]; simp [execOp, hop, e]
    | tup cs => simp at h2; refine ⟨h2.symm, ?_⟩; obtain ⟨us, e, _⟩ := hv; rw [e]; simp [execOp, hop, e]
    | nilI => simp at h2
    | iface t z => simp at h2; refine ⟨h2.symm, ?_⟩; obtain ⟨us, e, _⟩ := hv; rw [e]; simp [execOp, hop, e]
  rw [e.1]
  exact Out.pure h e.2 hv

theorem s_bin (op : BinOp) (t : TypeId) (x y : Operand) (yt : TypeId) (hop : o.op = .binOp op t x y yt) (hc : compileBin P G op t x y = some (opc, args)) (he : EnvR G H.next E env a) (h : HRel G B w0 E H w) (hs : osem C opc (args.map env.ev) H = some (v, H')) :
    Out P G B w0 E H w (execOp a.eval o) v H' := by
  have fin : ∀ u, ((do eqGuard op t x y (a.eval x) (a.eval y); Go.binOp op t (a.eval x) (a.eval y) : Sem Value)).run P w = .ok u w → VR G H.next E v u → H' = H → Out P G B w0 E H w (execOp a.eval o) v H' := by
    intro u hr hv e
    subst e
    refine Out.pure h (u := u) ?_ hv
    rw [Sem.run_bind] at hr
    simp only [execOp, hop, Sem.run_bind]
    revert hr
    cases (eqGuard op t x y (a.eval x) (a.eval y)).run P w with
    | ok q w1 => intro hr; simp only [Result.andThen_ok] at hr ⊢; rw [hr]; simp
    | halt q w1 => intro hr; simp at hr
  have plain : with2 G (.p (.bin op)) x y = some (opc, args) → Out P G B w0 E H w (execOp a.eval o) v H' := by
    intro hc
    obtain ⟨x', y', h1, h2, rfl, rfl⟩ := with2_eq hc
    obtain ⟨h3, rfl⟩ := osem_p hs
    simp only [List.map_cons, List.map_nil, psem] at h3
    obtain ⟨u, hr, hv⟩ := run_binOp (P := P) (w := w) (t := t) (x := x) (y := y) h3 (opd_VR he h1) (opd_VR he h2)
    exact fin u hr hv rfl
  have eqs : op = .eql ∨ op = .neq → Out P G B w0 E H w (execOp a.eval o) v H' := by
    intro ho
    have hc' : (match P.underlying t with
        | some (.int _) | some .string => with2 G (.p (.bin op)) x y
        | some .bool => with2 G (.p (.eqB (op == .neq))) x y
        | some (.struct _) | some (.array _ _) => match structFlat P t with | some ks => with2 G (.p (.eqCells (op == .neq) ks)) x y | none => none
        | _ => match nilKind P t with
          | some k => if isNilC k y then with1 G (.p (.isNil k (op == .neq))) x else if isNilC k x then with1 G (.p (.isNil k (op == .neq))) y else none
          | none => none) = some (opc, args) := by
      rcases ho with rfl | rfl <;> exact hc
    have nils : (match nilKind P t with
          | some k => if isNilC k y then with1 G (.p (.isNil k (op == .neq))) x else if isNilC k x then with1 G (.p (.isNil k (op == .neq))) y else none
          | none => none) = some (opc, args) → Out P G B w0 E H w (execOp a.eval o) v H' := by
      intro hc
      cases hk : nilKind P t with
      | none => simp [hk] at hc
      | some k =>
        simp only [hk] at hc
        split at hc
        · rename_i hy
          obtain ⟨x', h1, rfl, rfl⟩ := with1_eq hc
          obtain ⟨h3, rfl⟩ := osem_p hs
          simp only [List.map_cons, List.map_nil, psem] at h3
          cases hb : isNil k (env.ev x') with
          | none => simp [hb] at h3
          | some b =>
            simp [hb] at h3
            subst h3
            have := (run_isNil (P := P) (w := w) ho hk hb (opd_VR he h1) x y).1
            rw [← nil_val (a := a) hy] at this
            exact fin _ this rfl rfl
        · split at hc
          · rename_i hx
            obtain ⟨x', h1, rfl, rfl⟩ := with1_eq hc
            obtain ⟨h3, rfl⟩ := osem_p hs
            simp only [List.map_cons, List.map_nil, psem] at h3
            cases hb : isNil k (env.ev x') with
            | none => simp [hb] at h3
            | some b =>
              simp [hb] at h3
              subst h3
              have := (run_isNil (P := P) (w := w) ho hk hb (opd_VR he h1) x y).2
              rw [← nil_val (a := a) hx] at this
              exact fin _ this rfl rfl
          · cases hc
    have structs : (match structFlat P t with | some ks => with2 G (.p (.eqCells (op == .neq) ks)) x y | none => none) = some (opc, args) → Out P G B w0 E H w (execOp a.eval o) v H' := by
      intro hc
      cases hk : structFlat P t with
      | none => simp [hk] at hc
      | some ks =>
        simp only [hk] at hc
        obtain ⟨x', y', h1, h2, rfl, rfl⟩ := with2_eq hc
        obtain ⟨h3, rfl⟩ := osem_p hs
        have v1 := opd_VR he h1
        have v2 := opd_VR he h2
        simp only [List.map_cons, List.map_nil] at h3
        cases e1 : env.ev x' <;> rw [e1] at h3 v1 <;> simp only [psem, reduceCtorEq] at h3
        cases e2 : env.ev y' <;> rw [e2] at h3 v2 <;> simp only [psem, reduceCtorEq] at h3
        rename_i as bs
        cases hb : eqCells ks as bs with
        | none => simp [hb] at h3
        | some b =>
          simp [hb] at h3
          subst h3
          obtain ⟨us, q1, q2⟩ := v1
          obtain ⟨ws, q3, q4⟩ := v2
          have := run_eqCells (P := P) (w := w) ho hk hb q2 q4 x y
          rw [← q1, ← q3] at this
          exact fin _ this rfl rfl
    cases hd : P.underlying t with
    | none => simp only [hd] at hc'; exact nils hc'
    | some d =>
      cases d <;> simp only [hd] at hc' <;> first | exact nils hc' | exact plain hc' | exact structs hc' | skip
      obtain ⟨x', y', h1, h2, rfl, rfl⟩ := with2_eq hc'
      obtain ⟨h3, rfl⟩ := osem_p hs
      have v1 := opd_VR he h1
      have v2 := opd_VR he h2
      simp only [List.map_cons, List.map_nil] at h3
      cases e1 : env.ev x' <;> rw [e1] at h3 v1 <;> simp only [psem, reduceCtorEq] at h3
      cases e2 : env.ev y' <;> rw [e2] at h3 v2 <;> simp only [psem, reduceCtorEq] at h3
      rename_i b1 b2
      simp at h3
      subst h3
      have := run_eqB (P := P) (w := w) (op := op) (x := x) (y := y) (a := b1) (b := b2) hd ho
      rw [← show a.eval x = _ from v1, ← show a.eval y = _ from v2] at this
      exact fin _ this rfl rfl
  cases op <;> first | exact plain hc | exact eqs (.inl rfl) | exact eqs (.inr rfl)

end
end Go.Am
