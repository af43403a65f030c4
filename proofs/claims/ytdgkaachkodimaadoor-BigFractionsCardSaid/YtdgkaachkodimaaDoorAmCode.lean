/- What the small machine's code does, the model's code does: regions in every order, branches, loops, calls. -/
import Derived.Test.YtdgkaachkodimaaDoorAmCore
import Derived.Test.YtdgkaachkodimaaDoorAmRetr
import Derived.Test.YtdgkaachkodimaaDoorAmRng
import Derived.Test.YtdgkaachkodimaaDoorAmFen
set_option linter.unusedVariables false
set_option linter.unusedSimpArgs false
namespace Go.Am
open Go.RowKit
variable {G : Nat → Nat} {P : Program}
/-- What a call leaves. -/
def Back (P : Program) (G : Nat → Nat) (B : Prot) (w0 : Base) (E : Nat → Ent) (H : AHeap) (w : World) (s : Sem Next) (v : AV) (H' : AHeap) : Prop :=
  (∃ u w' E', s.run P w = .ok (.value u) w' ∧ VR G H'.next E' v u ∧ H.next ≤ H'.next ∧ Ext H.next E E' ∧ HRel G B w0 E' H' w') ∨
  (∃ f us, s.run P w = .ok (.enter f us) w ∧ Calls P f us w fun e w' => ∃ u E', e = .returned u ∧ VR G H'.next E' v u ∧ H.next ≤ H'.next ∧ Ext H.next E E' ∧ HRel G B w0 E' H' w')
/-- What a call leaves: one of several ends. -/
def BackF (P : Program) (G : Nat → Nat) (B : Prot) (w0 : Base) (E : Nat → Ent) (H : AHeap) (w : World) (s : Sem Next) (R : AV → AHeap → Prop) : Prop :=
  (∃ v H' u w' E', R v H' ∧ s.run P w = .ok (.value u) w' ∧ VR G H'.next E' v u ∧ H.next ≤ H'.next ∧ Ext H.next E E' ∧ HRel G B w0 E' H' w') ∨
  (∃ f us, s.run P w = .ok (.enter f us) w ∧ Calls P f us w fun e w' => ∃ v H' u E', R v H' ∧ e = .returned u ∧ VR G H'.next E' v u ∧ H.next ≤ H'.next ∧ Ext H.next E E' ∧ HRel G B w0 E' H' w')
theorem Back.one {B : Prot} {w0 : Base} {E : Nat → Ent} {H : AHeap} {w : World} {s : Sem Next} {v : AV} {H' : AHeap} {R : AV → AHeap → Prop} (h : Back P G B w0 E H w s v H') (hR : R v H') : BackF P G B w0 E H w s R := by
  rcases h with ⟨u, w', E', h1, h2, h3, h4, h5⟩ | ⟨f, us, h1, h2⟩
  · exact .inl ⟨v, H', u, w', E', hR, h1, h2, h3, h4, h5⟩
  · exact .inr ⟨f, us, h1, Calls.mono h2 fun e w' ⟨u, E', k1, k2, k3, k4, k5⟩ => ⟨v, H', u, E', hR, k1, k2, k3, k4, k5⟩⟩
/-- The small machine's calls are the model's: under some oracle. -/
structure CallOk (P : Program) (G : Nat → Nat) (B : Prot) (w0 : Base) (C : Ora → CallF) : Prop where
  call : ∀ f args H ω, (∀ ω', Agree ω ω' H.next → ∃ v H', C ω' (G f) args H = some (v, H')) → ∀ S, Sub B S → ∀ E w us, HRel G S w0 E H w → VRs G H.next E args us →
    BackF P G S w0 E H w (callFunc f us.toArray) fun v H' => ∃ ω', Agree ω ω' H.next ∧ C ω' (G f) args H = some (v, H')
  yld : ∀ b args H ω, (∀ ω', Agree ω ω' H.next → ∃ v H', C ω' yldF (.yld b :: args) H = some (v, H')) → ∀ S, Sub B S → ∀ E w us, HRel G S w0 E H w → VRs G H.next E args us → b < H.next →
    ∃ fn tmps asg body, (Instr.yield (E b).g us.toArray).run P w = .ok (.round (E b).g fn tmps asg body) w ∧ RoundIn (FR none) 0 P (E b).g fn tmps asg body w fun e w' => ∃ v H' u E', (∃ ω', Agree ω ω' H.next ∧ C ω' yldF (.yld b :: args) H = some (v, H')) ∧ e = .returned u ∧ VR G H'.next E' v u ∧ H.next ≤ H'.next ∧ Ext H.next E E' ∧ HRel G S w0 E' H' w'
  rng : ∀ ω args H v H', C ω rngF args H = some (v, H') → rngPrim args H = some (v, H')
  nxt : ∀ ω args H v H', C ω nxtF args H = some (v, H') → nxtPrim ω args H = some (v, H')
  pr : ∀ ω ω' N, Agree ω ω' N → Pr (C ω) (C ω') N
theorem CallOk.sub {B S : Prot} {w0 : Base} {C : Ora → CallF} (h : CallOk P G B w0 C) (k : Sub B S) : CallOk P G S w0 C :=
  ⟨fun f args H ω hc S' hs => h.call f args H ω hc S' (k.trans hs), fun b args H ω hc S' hs => h.yld b args H ω hc S' (k.trans hs), h.rng, h.nxt, h.pr⟩
section
variable {B : Prot} {w0 : Base} {C : CallF}
/-- A deferred call as a function's value. -/
def dval (d : Deferred) : Value := match d.target with | .fn f caps => .func f d.args caps | .collected r => .tuple #[.func (.yield r) #[] #[]] | _ => .tuple #[]
/-- The deferred calls that a frame holds. -/
def DefR (G : Nat → Nat) (n : Nat) (E : Nat → Ent) (v : AV) (ds : List Deferred) : Prop :=
  match v with
  | .undef => ds = []
  | .tup l => VRs G n E l (ds.map dval)
  | _ => False
theorem DefR.mono {n m : Nat} {E E' : Nat → Ent} (hn : n ≤ m) (hE : Ext n E E') {v : AV} {ds : List Deferred} (h : DefR G n E v ds) : DefR G m E' v ds := by
  cases v <;> simp only [DefR] at h ⊢
  · exact h
  · exact h.mono hn hE
/-- How a state of the small machine stands to the model's. -/
structure StR (G : Nat → Nat) (B : Prot) (w0 : Base) (nt : Nat) (E : Nat → Ent) (s : AState) (a : Act) (w : World) : Prop where
  env : EnvR G s.2.next E s.1 a
  heap : HRel G B w0 E s.2 w
  cap : nt ≤ dfrT
  nt : nt ≤ a.tmps.size
  defers : DefR G s.2.next E (s.1 dfrT) a.defers
theorem EnvR.put {n : Nat} {E : Nat → Ent} {env : Env} {a : Act} (h : EnvR G n E env a) {d : Option Nat} {v : AV} {u : Value} (hd : ∀ t, d = some t → t < a.tmps.size) (hv : VR G n E v u) : EnvR G n E (env.put d v) (a.put d u) := by
  cases d with
  | none => exact h
  | some t =>
    intro i hi0
    have ht := hd t rfl
    simp only [Env.put, Act.put, upd]
    by_cases e : i = t
    · subst e
      rw [if_pos rfl]
      simp [Array.getD, ht]
      exact hv
    · rw [if_neg e]
      have := h i hi0
      have e2 : (a.tmps.setIfInBounds t u).getD i Go.undef = a.tmps.getD i Go.undef := by
        simp [Array.getD_eq_getD_getElem?, Array.getElem?_setIfInBounds_ne (Ne.symm e)]
      rw [e2]; exact this
theorem EnvR.mono {n m : Nat} {E E' : Nat → Ent} {env : Env} {a : Act} (h : EnvR G n E env a) (hn : n ≤ m) (hE : Ext n E E') : EnvR G m E' env a := fun i hi => (h i hi).mono hn hE
theorem put_size (a : Act) (d : Option Nat) (u : Value) : (a.put d u).tmps.size = a.tmps.size := by cases d <;> simp [Act.put]
theorem put_defers (a : Act) (d : Option Nat) (u : Value) : (a.put d u).defers = a.defers := by cases d <;> rfl
/-- A region's operations beside their translation. -/
structure OpsR (P : Program) (G : Nat → Nat) (nt : Nat) (ops : Array Oper) (l : List AOper) : Prop where
  len : l.length = ops.size
  op : ∀ (i : Nat) o ao, ops[i]? = some o → l[i]? = some ao → compileOp P G o = some (ao.opc, ao.args) ∧ (isDfr o.op = false ∧ ao.dst = o.dst ∨ isDfr o.op = true ∧ o.dst = none ∧ o.guard = none ∧ ao.dst = some dfrT) ∧ (∀ d, o.dst = some d → d < nt) ∧ compileGuard ops o.guard = some ao.guard
theorem mapO_get {α β : Type} {f : α → Option β} : ∀ {xs : List α} {ys : List β}, mapO f xs = some ys → ys.length = xs.length ∧ ∀ (i : Nat) x y, xs[i]? = some x → ys[i]? = some y → f x = some y
  | [], ys, h => by simp [mapO] at h; subst h; exact ⟨rfl, fun i x y hx => by simp at hx⟩
  | x :: xs, ys, h => by
    unfold mapO at h
    cases h1 : f x with
    | none => simp [h1] at h
    | some y =>
      cases h2 : mapO f xs with
      | none => simp [h1, h2] at h
      | some l =>
        simp [h1, h2] at h
        subst h
        obtain ⟨k1, k2⟩ := mapO_get h2
        refine ⟨by simp [k1], fun i a b ha hb => ?_⟩
        cases i with
        | zero => simp at ha hb; subst ha; subst hb; exact h1
        | succ i => exact k2 i a b (by simpa using ha) (by simpa using hb)
theorem allDeps_len (ops : Array Oper) : (allDeps ops).length = ops.size := by
  unfold allDeps
  have : ∀ (l : List Oper) (acc : List (List Nat)), (l.foldl (fun acc o => acc ++ [closeDeps ops acc o]) acc).length = acc.length + l.length := by
    intro l
    induction l with
    | nil => intro acc; simp
    | cons o l ih => intro acc; rw [List.foldl_cons, ih]; simp; omega
  rw [this]; simp
theorem compileOps_R {nt : Nat} {ops : Array Oper} {l : List AOper} (h : compileOps P G nt ops = some l) : OpsR P G nt ops l := by
  unfold compileOps at h
  obtain ⟨h1, h2⟩ := mapO_get h
  have hz : (ops.toList.zip (allDeps ops)).length = ops.size := by rw [List.length_zip, allDeps_len]; simp
  refine ⟨by rw [h1, hz], fun i o ao ho ha => ?_⟩
  have hi : i < ops.size := (Array.getElem?_eq_some_iff.1 ho).1
  have hdl : i < (allDeps ops).length := by rw [allDeps_len]; exact hi
  have hzi : (ops.toList.zip (allDeps ops))[i]? = some (o, (allDeps ops)[i]) := by
    rw [List.getElem?_zip_eq_some]
    exact ⟨by rw [Array.getElem?_toList]; exact ho, List.getElem?_eq_getElem hdl⟩
  have := h2 i _ ao hzi ha
  unfold compileOper at this
  simp only at this
  split at this
  · rename_i opc args g q1 q2
    split at this
    · rename_i q3
      have hd : ∀ d, o.dst = some d → d < nt := fun d hd => by rw [hd] at q3; simpa [dstOk] using q3
      split at this
      · rename_i q4
        split at this
        · rename_i q5
          simp at this
          subst this
          simp only [Bool.and_eq_true, Option.isNone_iff_eq_none] at q5
          exact ⟨q1, .inr ⟨q4, q5.1, q5.2, rfl⟩, hd, q2⟩
        · cases this
      · rename_i q4
        simp at this
        subst this
        exact ⟨q1, .inl ⟨by simpa using q4, rfl⟩, hd, q2⟩
    · cases this
  · cases this
theorem wanted_eq {nt : Nat} {E : Nat → Ent} {s : AState} {a : Act} {w : World} (hr : StR G B w0 nt E s a w) {ops : Array Oper} {g : Option (Nat × Bool)} {ag : Option (Nat × Bool)} (hg : compileGuard ops g = some ag) {b : Bool} (hw : Am.wanted s.1 ag = some b) (o : Oper) (ho : o.guard = g) :
    Region.wanted o (yielded ops a.tmps) = b := by
  cases g with
  | none =>
    simp [compileGuard] at hg; subst hg
    simp [Am.wanted] at hw; subst hw
    simp [Region.wanted, ho]
  | some p =>
    obtain ⟨j, wnt⟩ := p
    simp only [compileGuard] at hg
    cases hj : ops[j]? with
    | none => simp [hj] at hg
    | some oj =>
      cases hd : oj.dst with
      | none => simp [hj, hd] at hg
      | some t =>
        simp only [hj, hd] at hg
        split at hg
        case isFalse => cases hg
        rename_i htd
        simp only [Option.some.injEq] at hg
        subst hg
        have hv := hr.env t (Nat.ne_of_lt htd)
        have hy : ∀ u : Value, a.tmps.getD t Go.undef = u → (∀ b, u ≠ .bool b) → yielded ops a.tmps j = none := by
          intro u hu hn
          unfold yielded
          simp only [hj, hd, Option.bind_some]
          cases ht : a.tmps[t]? with
          | none => rfl
          | some z =>
            have : z = u := by rw [← hu, Array.getD_eq_getD_getElem?, ht]; rfl
            subst this
            cases z <;> first | rfl | exact absurd rfl (hn _)
        have fin : yielded ops a.tmps j = none → b = false → Region.wanted o (yielded ops a.tmps) = b := by
          intro h1 h2; subst h2; simp [Region.wanted, ho, h1]
        simp only [Am.wanted] at hw
        cases he : s.1 t <;> rw [he] at hw hv <;> simp only [Option.some.injEq, reduceCtorEq] at hw
        case bool x =>
          subst hw
          have hu : a.tmps.getD t Go.undef = .bool x := hv
          have ht : a.tmps[t]? = some (.bool x) := by
            rw [Array.getD_eq_getD_getElem?] at hu
            cases ht : a.tmps[t]? with
            | none => rw [ht] at hu; simp [Go.undef] at hu
            | some z => rw [ht] at hu; simpa using hu
          simp [Region.wanted, ho, yielded, hj, hd, ht]
        case int k i => exact fin (hy _ hv (by simp)) hw.symm
        case str l => exact fin (hy _ hv (by simp)) hw.symm
        case ptr p =>
          cases p with
          | none => exact fin (hy _ hv (by simp)) hw.symm
          | some p => exact fin (hy _ hv.2 (by simp)) hw.symm
        case slc p z l c =>
          cases p with
          | none => exact fin (hy _ hv.2 (by simp)) hw.symm
          | some p => obtain ⟨_, _, _, e, _⟩ := hv; exact fin (hy _ e (by simp)) hw.symm
        case map m =>
          cases m with
          | none => exact fin (hy _ hv (by simp)) hw.symm
          | some p => exact fin (hy _ hv.2 (by simp)) hw.symm
        case fn f x y => obtain ⟨_, _, _, _, e, _⟩ := hv; exact fin (hy _ e (by simp)) hw.symm
        case nilFn => exact fin (hy _ hv (by simp)) hw.symm
        case yld b => exact fin (hy _ hv.2 (by simp)) hw.symm
        case agg cs => obtain ⟨_, e, _⟩ := hv; exact fin (hy _ e (by simp)) hw.symm
        case tup cs => obtain ⟨_, e, _⟩ := hv; exact fin (hy _ e (by simp)) hw.symm
        case nilI => exact fin (hy _ hv (by simp)) hw.symm
        case iface t' z => obtain ⟨_, e, _⟩ := hv; exact fin (hy _ e (by simp)) hw.symm
theorem compileOp_cases {o : Oper} {opc : AOpc} {args : List AOpd} (h : compileOp P G o = some (opc, args)) : compileOp0 P G o = some (opc, args) ∨ opc = .p .fail := by
  unfold compileOp at h
  cases h0 : compileOp0 P G o with
  | none => simp [h0] at h; exact .inr h.1.symm
  | some p => simp [h0] at h; exact .inl (by rw [h])
/-- A call of a function value, or a range over a map. -/
theorem compileOp_call {o : Oper} {args : List AOpd} (hc : compileOp0 P G o = some (.w .call, args)) : (∃ c f, o.op = .call c ∧ c.callee = .value f ∧ opds G (f :: c.args.toList) = some args) ∨
    (∃ t x kt et x', o.op = .range t x ∧ P.underlying t = some (.map kt et) ∧ opd G x = some x' ∧ args = [.c (.fn rngF [] []), x']) ∨ (∃ x x', o.op = .next x false ∧ opd G x = some x' ∧ args = [.c (.fn nxtF [] []), x']) := by
  have no1 : ∀ {p : AOpc} {x : Operand}, p ≠ .w .call → with1 G p x = some (.w .call, args) → False := by
    intro p x hp h
    obtain ⟨_, _, e, _⟩ := with1_eq h
    exact hp e.symm
  have no2 : ∀ {p : AOpc} {x y : Operand}, p ≠ .w .call → with2 G p x y = some (.w .call, args) → False := by
    intro p x y hp h
    obtain ⟨_, _, _, _, e, _⟩ := with2_eq h
    exact hp e.symm
  have nos : ∀ {p : AOpc} {xs : List Operand}, p ≠ .w .call → withs G p xs = some (.w .call, args) → False := fun hp h => hp (withs_eq h).2.symm
  by_cases hr : ∃ t x, o.op = .range t x
  · obtain ⟨t, x, hop⟩ := hr
    simp only [compileOp0, hop] at hc
    split at hc
    · exact (no1 (by simp) hc).elim
    · rename_i kt et hd
      obtain ⟨x', h1, _, rfl⟩ := withM_eq hc
      exact .inr (.inl ⟨t, x, kt, et, x', hop, hd, h1, rfl⟩)
    · cases hc
  by_cases hx : ∃ x, o.op = .next x false
  · obtain ⟨x, hop⟩ := hx
    simp only [compileOp0, hop] at hc
    obtain ⟨x', h1, _, rfl⟩ := withM_eq hc
    exact .inr (.inr ⟨x, x', hop, h1, rfl⟩)
  left
  unfold compileOp0 at hc
  split at hc
  case h_35 c hop =>
    unfold compileCall at hc
    cases hcal : c.callee with
    | value f =>
      simp only [hcal] at hc
      exact ⟨c, f, hop, hcal, (withs_eq hc).1⟩
    | invoke r m => simp [hcal] at hc
    | builtin b =>
      simp only [hcal] at hc
      exfalso
      repeat' split at hc
      all_goals first
        | (cases hc; done)
        | (exact no1 (by simp) hc)
        | (exact no2 (by simp) hc)
        | (exact nos (by simp) hc)
        | (simp at hc; done)
  all_goals
    exfalso
    try unfold compileBin at hc
    try unfold compileConv at hc
    repeat' split at hc
    all_goals first
      | (cases hc; done)
      | (exact no1 (by simp) hc)
      | (exact no2 (by simp) hc)
      | (exact nos (by simp) hc)
      | (exact hr ⟨_, _, by assumption⟩)
      | (exact hx ⟨_, by assumption⟩)
      | (simp at hc; done)
/-- A deferred call. -/
theorem compileOp_dfr {o : Oper} (hd : isDfr o.op = true) {opc : AOpc} {args : List AOpd} (hc : compileOp0 P G o = some (opc, args)) : ∃ c f xs, o.op = .defer c ∧ c.callee = .value f ∧ opds G (f :: c.args.toList) = some xs ∧ opc = .p .dfr ∧ args = .t dfrT :: xs := by
  cases hop : o.op <;> rw [hop] at hd <;> simp only [isDfr, Bool.false_eq_true] at hd
  rename_i c
  simp only [compileOp0, hop] at hc
  cases hcal : c.callee with
  | value f =>
    simp only [hcal] at hc
    cases hx : opds G (f :: c.args.toList) with
    | none => simp [hx] at hc
    | some xs =>
      simp only [hx, Option.some.injEq, Prod.mk.injEq] at hc
      exact ⟨c, f, xs, rfl, hcal, hx, hc.1.symm, hc.2.symm⟩
  | invoke r m => simp [hcal] at hc
  | builtin b => simp [hcal] at hc
/-- In a round nothing is deferred. -/
def NoD (ro : Option Nat) (ops : Array Oper) : Prop := ro = none ∨ ∀ (i : Nat) (o : Oper), ops[i]? = some o → isDfr o.op = false
theorem NoD.op {ro : Option Nat} {ops : Array Oper} (h : NoD ro ops) {i : Nat} {o : Oper} (ho : ops[i]? = some o) : ro = none ∨ isDfr o.op = false := h.imp id fun h => h i o ho
theorem not_dfr {o : Oper} (h : isDfr o.op = false) : ∀ c, o.op ≠ Op.defer c := fun c e => by rw [e] at h; cases h
/-- ONE OPERATION, in the model's order. -/
theorem step_sound {ro : Option Nat} {CO : Ora → CallF} (hC : CallOk P G B w0 CO) {nt : Nat} {ops : Array Oper} {l : List AOper} (hops : OpsR P G nt ops l) {i : Nat} {o : Oper} {ao : AOper} (ho : ops[i]? = some o) (ha : l[i]? = some ao) (hnd : ro = none ∨ isDfr o.op = false) {E : Nat → Ent} {s : AState} {a : Act} {w : World} (hr : StR G B w0 nt E s a w) {ω : Ora}
    (hf : ∀ ω', Agree ω ω' s.2.next → ∃ s', aop (CO ω') ao s = some s')
    {K : Act → World → Prop} {Q : Exit → Act → World → Prop} (hKF : ∀ ω' s', Agree ω ω' s.2.next → aop (CO ω') ao s = some s' → ∀ a' w' E', (∀ t, o.dst ≠ some t → a'.tmps.getD t Go.undef = a.tmps.getD t Go.undef) → Ext s.2.next E E' → s.2.next ≤ s'.2.next → StR G B w0 nt E' s' a' w' → K a' w') : wpOpIn (FR ro) 0 P ops Q i K a w := by
  obtain ⟨s', hs⟩ := hf ω .refl
  have hK := hKF ω s' .refl hs
  obtain ⟨c1, c2, c3, c4⟩ := hops.op i o ao ho ha
  unfold aop at hs
  cases hst : step1 (CO ω) ao s with
  | none => simp [hst] at hs
  | some p =>
    obtain ⟨v, H'⟩ := p
    simp [hst] at hs
    subst hs
    unfold wpOpIn
    simp only [ho]
    unfold step1 at hst
    rcases c2 with ⟨nd, c2⟩ | ⟨isd, d1, d2, d3⟩
    case inr =>
      have g0 : ao.guard = none := by rw [d2] at c4; simpa [compileGuard] using c4.symm
      rcases compileOp_cases c1 with c1 | hfail
      case inr =>
        rw [g0, hfail] at hst
        simp [Am.wanted, osem, psem] at hst
      obtain ⟨c, f, xs, hop, hcal, hx, e1, e2⟩ := compileOp_dfr isd c1
      have hwb : Region.wanted o (yielded ops a.tmps) = true := by simp [Region.wanted, d2]
      rw [hwb]
      simp only [if_true]
      rw [g0, e1, e2] at hst
      simp only [Am.wanted, osem, List.map_cons] at hst
      have hv := opds_VRs hr.env hx
      rw [List.map_cons] at hv
      obtain ⟨a1, as, q1, v1, hv⟩ := hv.inv_cons
      rw [q1] at hst
      have hdf := hr.defers
      cases a1 <;> simp only [psem, reduceCtorEq] at hst
      rename_i fg first caps
      obtain ⟨f', us, ws, g1, g2, g3, g4⟩ := v1
      have hexec : (execOp a.eval o).run P w = .ok (.defer { target := .fn (.func f') ws, args := us ++ c.args.map a.eval }) w := by
        simp [execOp, hop, resolve, hcal, g2, Deferred.ofValue]
      have hnew : VR G s.2.next E (.fn fg (first ++ as) caps) (dval { target := .fn (.func f') ws, args := us ++ c.args.map a.eval }) := by
        refine ⟨f', us ++ c.args.map a.eval, ws, g1, rfl, ?_, g4⟩
        have := g3.append hv
        simpa using this
      have hro : ro = none := hnd.resolve_right (by rw [isd]; simp)
      refine wpIn_dfr hro hexec ?_
      show K ({ a with defers := _ :: a.defers }.put o.dst Go.undef) w
      rw [d1]
      have fin : ∀ v0, (∀ t, t ≠ dfrT → (s.1.put ao.dst v0) t = s.1 t) := by
        intro v0 t ht
        rw [d3]; exact upd_ne _ _ _ ht
      have old : s.1.ev (.t dfrT) = s.1 dfrT := rfl
      rw [old] at hst
      have done : ∀ v0 H0, (match s.1 dfrT with | .undef => some (AV.tup [.fn fg (first ++ as) caps]) | .tup ds => some (.tup (.fn fg (first ++ as) caps :: ds)) | _ => none) = some v0 → H0 = s.2 → v0 = v → H0 = H' → K ({ a with defers := { target := .fn (.func f') ws, args := us ++ c.args.map a.eval } :: a.defers }.put none Go.undef) w := by
        intro v0 H0 h0 h1 h2 h3
        subst h2; subst h1; subst h3
        refine hK _ _ E (fun t _ => rfl) (Ext.refl _ _) (Nat.le_refl _) ⟨fun t ht => ?_, hr.heap, hr.cap, hr.nt, ?_⟩
        · show VR G s.2.next E ((s.1.put ao.dst v0) t) _
          rw [fin v0 t ht]; exact hr.env t ht
        · show DefR G s.2.next E ((s.1.put ao.dst v0) dfrT) _
          have e3 : (s.1.put ao.dst v0) dfrT = v0 := by rw [d3]; exact upd_same _ _ _
          rw [e3]
          cases hs0 : s.1 dfrT <;> rw [hs0] at h0 hdf <;> simp only [Option.some.injEq, reduceCtorEq] at h0
          · subst h0
            have : a.defers = [] := hdf
            show VRs G s.2.next E _ (List.map dval (_ :: a.defers))
            rw [this]
            exact VRs.single hnew
          · subst h0
            exact ⟨_, _, rfl, hnew, hdf⟩
      cases hs0 : s.1 dfrT <;> rw [hs0] at hst <;> simp only [Option.some.injEq, Prod.mk.injEq, reduceCtorEq] at hst
      · exact done _ _ (by rw [hs0]) rfl hst.1 hst.2
      · exact done _ _ (by rw [hs0]) rfl hst.1 hst.2
    have hdst : ∀ t, ao.dst = some t → t < a.tmps.size := fun t ht => Nat.lt_of_lt_of_le (c3 t (by rw [← c2]; exact ht)) hr.nt
    have done : ∀ u w' E', VR G H'.next E' v u → s.2.next ≤ H'.next → Ext s.2.next E E' → HRel G B w0 E' H' w' → K (a.put o.dst u) w' := by
      intro u w' E' q1 q2 q3 q4
      refine hK _ _ E' (fun t ht => by rw [Array.getD_eq_getD_getElem?, Array.getD_eq_getD_getElem?]; cases hd : o.dst with | none => rfl | some d => (rw [hd] at ht; simp [Act.put, Array.getElem?_setIfInBounds_ne (show d ≠ t from fun e => ht (by rw [e]))])) q3 q2 ⟨?_, q4, hr.cap, by rw [put_size]; exact hr.nt, ?_⟩
      · rw [← c2]
        exact (hr.env.mono q2 q3).put hdst q1
      · rw [put_defers]
        have e3 : (s.1.put ao.dst v) dfrT = s.1 dfrT := by
          cases hd : ao.dst with
          | none => rfl
          | some d =>
            have := c3 d (by rw [← c2]; exact hd)
            exact upd_ne _ _ _ (by have h9 := hr.cap; intro h8; rw [h8] at h9; exact absurd this (Nat.not_lt.2 h9))
        show DefR G H'.next E' ((s.1.put ao.dst v) dfrT) _
        rw [e3]; exact hr.defers.mono q2 q3
    cases hw : Am.wanted s.1 ao.guard with
    | none => rw [hw] at hst; cases hst
    | some b =>
      have hwb := wanted_eq hr c4 hw o rfl
      rw [hw] at hst
      cases b with
      | false =>
        simp only [Option.some.injEq, Prod.mk.injEq] at hst
        obtain ⟨rfl, rfl⟩ := hst
        rw [hwb]
        simp only [Bool.false_eq_true, if_false]
        refine ⟨fun _ _ => trivial, ?_⟩
        exact done Go.undef w E ⟨#[], rfl, rfl⟩ (Nat.le_refl _) (Ext.refl _ _) hr.heap
      | true =>
        simp only at hst
        rw [hwb]
        simp only [if_true]
        have nd' := not_dfr nd
        rcases compileOp_cases c1 with c1 | hfail
        case inr => rw [hfail] at hst; simp [osem, psem] at hst
        by_cases hcall : ao.opc = .w .call
        · -- one of the ends that the oracles give
          have doneF : ∀ ω' v' H2, Agree ω ω' s.2.next → osem (CO ω') ao.opc (ao.args.map s.1.ev) s.2 = some (v', H2) → ∀ u w' E', VR G H2.next E' v' u → s.2.next ≤ H2.next → Ext s.2.next E E' → HRel G B w0 E' H2 w' → K (a.put o.dst u) w' := by
            intro ω' v' H2 hag hos u w' E' q1 q2 q3 q4
            have hstep : aop (CO ω') ao s = some (s.1.put ao.dst v', H2) := by
              unfold aop step1
              rw [hw]
              simp only [hos]
            refine hKF ω' _ hag hstep _ _ E' (fun t ht => by rw [Array.getD_eq_getD_getElem?, Array.getD_eq_getD_getElem?]; cases hd : o.dst with | none => rfl | some d => (rw [hd] at ht; simp [Act.put, Array.getElem?_setIfInBounds_ne (show d ≠ t from fun e => ht (by rw [e]))])) q3 q2 ⟨?_, q4, hr.cap, by rw [put_size]; exact hr.nt, ?_⟩
            · rw [← c2]
              exact (hr.env.mono q2 q3).put hdst q1
            · rw [put_defers]
              have e3 : (s.1.put ao.dst v') dfrT = s.1 dfrT := by
                cases hd : ao.dst with
                | none => rfl
                | some d =>
                  have := c3 d (by rw [← c2]; exact hd)
                  exact upd_ne _ _ _ (by have h9 := hr.cap; intro h8; rw [h8] at h9; exact absurd this (Nat.not_lt.2 h9))
              show DefR G H2.next E' ((s.1.put ao.dst v') dfrT) _
              rw [e3]; exact hr.defers.mono q2 q3
          have famO : ∀ ω', Agree ω ω' s.2.next → ∃ v' H2, osem (CO ω') ao.opc (ao.args.map s.1.ev) s.2 = some (v', H2) := by
            intro ω' hag
            obtain ⟨s2, hs2⟩ := hf ω' hag
            unfold aop step1 at hs2
            rw [hw] at hs2
            simp only at hs2
            cases hos : osem (CO ω') ao.opc (ao.args.map s.1.ev) s.2 with
            | none => simp [hos] at hs2
            | some p => exact ⟨p.1, p.2, rfl⟩
          rw [hcall] at c1 doneF famO
          rcases compileOp_call c1 with ⟨c, f, hop, hcal, hargs⟩ | ⟨t, x, kt, et, x', hop, hd, hx, hargs⟩ | ⟨x, x', hop, hx, hargs⟩
          · have hv := opds_VRs hr.env hargs
            rw [List.map_cons] at hv
            obtain ⟨a1, as, e1, v1, hv⟩ := hv.inv_cons
            rw [e1] at doneF famO
            have isfn : (∃ fg first caps, a1 = .fn fg first caps) ∨ ∃ b, a1 = .yld b := by
              obtain ⟨v', H2, hos⟩ := famO ω .refl
              simp only [osem] at hos
              cases a1 <;> simp only [wsem, reduceCtorEq] at hos
              · exact .inl ⟨_, _, _, rfl⟩
              · exact .inr ⟨_, rfl⟩
            rcases isfn with ⟨fg, first, caps, rfl⟩ | ⟨b, rfl⟩
            · obtain ⟨f', us, ws, g1, g2, g3, g4⟩ := v1
              subst g1
              have hb := hC.call f' (first ++ as ++ caps) s.2 ω (fun ω' hag => famO ω' hag) B (Sub.refl B) E w (us.toList ++ c.args.toList.map a.eval ++ ws.toList) hr.heap ((g3.append hv).append g4)
              have hexec : execOp a.eval o = callFunc f' (us.toList ++ c.args.toList.map a.eval ++ ws.toList).toArray := by
                simp only [execOp, hop, resolve, hcal, g2, Deferred.ofValue]
                have : us ++ c.args.map a.eval ++ ws = (us.toList ++ c.args.toList.map a.eval ++ ws.toList).toArray := by
                  apply Array.ext'; simp
                rw [← this]
                rfl
              rcases hb with ⟨v', H2, u, w', E', ⟨ω', hag, hcc⟩, r1, r2, r3, r4, r5⟩ | ⟨f2, us2, r1, r2⟩
              · exact wpIn_op (r := .ok (.value u) w') nd' (by rw [hexec]; exact r1) (doneF ω' v' H2 hag hcc u w' E' r2 r3 r4 r5)
              · refine wpIn_op (r := .ok (.enter f2 us2) w) nd' (by rw [hexec]; exact r1) ⟨(fun h => by cases h), callsFR (Calls.mono r2 ?_)⟩
                rintro e w' ⟨v', H2, u, E', ⟨ω', hag, hcc⟩, rfl, q2, q3, q4, q5⟩
                exact doneF ω' v' H2 hag hcc u w' E' q2 q3 q4 q5
            · obtain ⟨g1, g2⟩ := v1
              obtain ⟨fn, tm, asg, body, y1, y2⟩ := hC.yld b as s.2 ω (fun ω' hag => famO ω' hag) B (Sub.refl B) E w (c.args.toList.map a.eval) hr.heap hv g1
              have hexec : execOp a.eval o = Instr.yield (E b).g (c.args.toList.map a.eval).toArray := by
                simp only [execOp, hop, resolve, hcal, g2, Deferred.ofValue]
                have : #[] ++ c.args.map a.eval = (c.args.toList.map a.eval).toArray := by
                  apply Array.ext'; simp
                rw [← this]
                rfl
              refine wpIn_op (r := .ok (.round (E b).g fn tm asg body) w) nd' (by rw [hexec]; exact y1) ⟨(fun h => by cases h), roundFR (RoundIn.mono y2 ?_)⟩
              rintro e w' ⟨v', H2, u, E', ⟨ω', hag, hcc⟩, rfl, q2, q3, q4, q5⟩
              exact doneF ω' v' H2 hag hcc u w' E' q2 q3 q4 q5
          · have hvx : VR G s.2.next E (s.1.ev x') (a.eval x) := opd_VR hr.env hx
            rw [hargs] at doneF famO
            obtain ⟨v', H2, hos⟩ := famO ω .refl
            have hrp := hC.rng ω _ _ _ _ (show CO ω rngF [s.1.ev x'] s.2 = some (v', H2) from hos)
            obtain ⟨u, w', E', r1, r2, r3, r4, r5⟩ := rng_sound (o := o) (a := a) t x hop hd hvx hr.heap hrp
            rcases r1 with r1 | ⟨r1, rfl⟩
            · exact wpIn_op nd' r1 (doneF ω v' H2 .refl hos u w' E' r2 r3 r4 r5)
            · exact wpIn_op nd' r1 (doneF ω v' H2 .refl hos _ w' E' r2 r3 r4 r5)
          · have hvx : VR G s.2.next E (s.1.ev x') (a.eval x) := opd_VR hr.env hx
            rw [hargs] at doneF famO
            have fam : ∀ ω', Agree ω ω' s.2.next → ∃ r, nxtPrim ω' [s.1.ev x'] s.2 = some r := by
              intro ω' hag
              obtain ⟨v', H2, hos⟩ := famO ω' hag
              exact ⟨_, hC.nxt ω' _ _ _ _ (show CO ω' nxtF [s.1.ev x'] s.2 = some (v', H2) from hos)⟩
            obtain ⟨ω', v', H2, hag, hnx, u, w', E', r1, r2, r3, r4, r5⟩ := nxt_sound (o := o) (a := a) x hop hvx hr.heap fam
            obtain ⟨v3, H3, hos⟩ := famO ω' hag
            have := hC.nxt ω' _ _ _ _ (show CO ω' nxtF [s.1.ev x'] s.2 = some (v3, H3) from hos)
            rw [hnx] at this
            simp only [Option.some.injEq, Prod.mk.injEq] at this
            obtain ⟨rfl, rfl⟩ := this
            rcases r1 with r1 | ⟨r1, rfl⟩
            · exact wpIn_op nd' r1 (doneF ω' v' H2 hag hos u w' E' r2 r3 r4 r5)
            · exact wpIn_op nd' r1 (doneF ω' v' H2 hag hos _ w' E' r2 r3 r4 r5)
        · obtain ⟨u, w', E', r1, r2, r3, r4, r5⟩ := op_sound (o := o) (a := a) c1 hcall nd hr.env hr.heap hst
          rcases r1 with r1 | ⟨r1, rfl⟩
          · exact wpIn_op nd' r1 (done u w' E' r2 r3 r4 r5)
          · exact wpIn_op nd' r1 (done _ w' E' r2 r3 r4 r5)
/-- The text's order. -/
theorem text_sound {ro : Option Nat} {CO : Ora → CallF} (hC : CallOk P G B w0 CO) {nt : Nat} {ops : Array Oper} {l : List AOper} (hops : OpsR P G nt ops l) (hnd : NoD ro ops) {Q : Exit → Act → World → Prop} : ∀ (r : List AOper) (k : Nat) (E : Nat → Ent) (s : AState) (a : Act) (w : World) (ω : Ora), l.drop k = r → StR G B w0 nt E s a w → (∀ ω', Agree ω ω' s.2.next → ∃ s', aops (CO ω') r s = some s') →
    (∀ ω' s', Agree ω ω' s.2.next → aops (CO ω') r s = some s' → ∀ a' w' E', Ext s.2.next E E' → s.2.next ≤ s'.2.next → StR G B w0 nt E' s' a' w' → Q .normal a' w') → wpOpsIn (FR ro) 0 P ops Q (List.range' k r.length) a w
  | [], k, E, s, a, w, ω, _, hr, hf, hQ => hQ ω s .refl rfl a w E (Ext.refl _ _) (Nat.le_refl _) hr
  | ao :: r, k, E, s, a, w, ω, hd, hr, hf, hQ => by
    have h1 : ∀ ω', Agree ω ω' s.2.next → ∃ s1, aop (CO ω') ao s = some s1 := by
      intro ω' hag
      obtain ⟨s', hs⟩ := hf ω' hag
      unfold aops at hs
      cases h1 : aop (CO ω') ao s with
      | none => simp [h1] at hs
      | some s1 => exact ⟨s1, rfl⟩
    have hk : l[k]? = some ao := by rw [← List.head?_drop, hd]; rfl
    have hkl : k < l.length := (List.getElem?_eq_some_iff.1 hk).1
    have ho : ops[k]? = some (ops[k]'(by rw [← hops.len]; exact hkl)) := Array.getElem?_eq_getElem _
    rw [List.length_cons, List.range'_succ, wpOpsIn_cons]
    refine step_sound hC hops ho hk (hnd.op ho) hr h1 (fun ω1 s1 hag1 hs1 a' w' E' _ e1 e2 hr' => ?_)
    have next : ∀ ω2, Agree ω1 ω2 s1.2.next → Agree ω ω2 s.2.next ∧ aops (CO ω2) (ao :: r) s = aops (CO ω2) r s1 := by
      intro ω2 hag2
      refine ⟨hag1.trans (hag2.le e2), ?_⟩
      have := (aop_pr (hC.pr ω1 ω2 s1.2.next hag2) hs1).2 (Nat.le_refl _)
      conv => lhs; unfold aops
      rw [this]
    refine text_sound hC hops hnd r (k + 1) E' s1 a' w' ω1 (by rw [← List.tail_drop, hd]; rfl) hr' (fun ω2 hag2 => ?_) (fun ω2 s2 hag2 hs2 a2 w2 E2 q1 q2 q3 => ?_)
    · obtain ⟨q1, q2⟩ := next ω2 hag2
      rw [← q2]; exact hf ω2 q1
    · obtain ⟨q4, q5⟩ := next ω2 hag2
      exact hQ ω2 s2 q4 (by rw [q5]; exact hs2) a2 w2 E2 (e1.trans q1 e2) (Nat.le_trans e2 q2) q3
/-! ### Every order -/
/-- How many have not run. -/
def left (D : Nat → Bool) : Nat → Nat
  | 0 => 0
  | k + 1 => left D k + if D k then 0 else 1
theorem left_congr {D D' : Nat → Bool} : ∀ n, (∀ j, j < n → D j = D' j) → left D n = left D' n
  | 0, _ => rfl
  | n + 1, h => by unfold left; rw [left_congr n fun j hj => h j (by omega), h n (by omega)]
theorem left_step {D : Nat → Bool} {i : Nat} (hi : D i = false) : ∀ n, i < n → left (fun j => D j || j == i) n + 1 = left D n
  | n + 1, h => by
    unfold left
    by_cases e : i = n
    · subst e
      have : left (fun j => D j || j == i) i = left D i := left_congr i fun j hj => by
        have : (j == i) = false := by simp; omega
        simp [this]
      simp [this, hi]
    · have ih := left_step hi n (by omega)
      have : (n == i) = false := by simp; omega
      simp only [this, Bool.or_false]
      omega
theorem left_zero {D : Nat → Bool} : ∀ n, left D n = 0 → ∀ j, j < n → D j = true
  | n + 1, h, j, hj => by
    unfold left at h
    have h1 : left D n = 0 := by omega
    by_cases e : j = n
    · subst e
      cases hd : D j with
      | true => rfl
      | false => simp [hd] at h
    · exact left_zero n h1 j (by omega)
theorem edgesOk_dir {ops : Array Oper} {l : List AOper} (h : edgesOk ops l = true) {i : Nat} {o : Oper} {ao : AOper} (ho : ops[i]? = some o) (ha : l[i]? = some ao) :
    (∀ e ∈ o.after.toList, Region.binds .any e = true → e.on ∈ ao.deps) ∧ (∀ d ∈ ao.deps, ∃ e ∈ o.after.toList, Region.binds .any e = true ∧ (e.on = d ∨ ∃ b, l[e.on]? = some b ∧ d ∈ b.deps)) := by
  unfold edgesOk at h
  have := List.all_eq_true.1 h i (List.mem_range.2 (List.getElem?_eq_some_iff.1 ha).1)
  simp only [ho, ha, Bool.and_eq_true] at this
  obtain ⟨h1, h2⟩ := this
  refine ⟨fun e he hb => ?_, fun d hd => ?_⟩
  · have := List.all_eq_true.1 h1 e he
    simp [hb] at this
    exact this
  · have := List.all_eq_true.1 h2 d hd
    obtain ⟨e, he, hp⟩ := List.any_eq_true.1 this
    simp only [Bool.and_eq_true, Bool.or_eq_true, beq_iff_eq] at hp
    refine ⟨e, he, hp.1, ?_⟩
    rcases hp.2 with q | q
    · exact .inl q
    · cases hb : l[e.on]? with
      | none => simp [hb] at q
      | some b => simp [hb] at q; exact .inr ⟨b, rfl, q⟩
/-! ### Rows that come early -/
/-- They have come, and the small machine has them not yet. -/
def Pend (l : List AOper) (D F : Nat → Bool) (j : Nat) : Prop := j < l.length ∧ D j = true ∧ F j = false
def pendT (l : List AOper) (D F : Nat → Bool) (t : Nat) : Bool := (List.range l.length).any fun j => D j && !F j && (match l[j]? with | some y => y.dst == some t | none => false)
def envP (l : List AOper) (D F : Nat → Bool) (e : Env) : Env := fun t => if pendT l D F t then .undef else e t
theorem pendT_iff {l : List AOper} {D F : Nat → Bool} {t : Nat} : pendT l D F t = true ↔ ∃ j y, Pend l D F j ∧ l[j]? = some y ∧ y.dst = some t := by
  unfold pendT
  rw [List.any_eq_true]
  constructor
  · rintro ⟨j, hj, h⟩
    rw [List.mem_range] at hj
    have hl : l[j]? = some (l[j]'hj) := List.getElem?_eq_getElem _
    rw [hl] at h
    simp only [Bool.and_eq_true, Bool.not_eq_true', beq_iff_eq] at h
    exact ⟨j, _, ⟨hj, h.1.1, h.1.2⟩, hl, h.2⟩
  · rintro ⟨j, y, ⟨h1, h2, h3⟩, h4, h5⟩
    exact ⟨j, List.mem_range.2 h1, by rw [h4]; simp [h2, h3, h5]⟩
def PendAt (G : Nat → Nat) (S : Prot) (z : Nat) (l : List AOper) (st : Nat → AState) (n : Nat) (E : Nat → Ent) (a : Act) (gm : Nat → Nat) (j : Nat) : Prop :=
  ∃ y d fl vf u ob Cn, l[j]? = some y ∧ y.dst = some d ∧ floRes y.opc (y.args.map (st j).1.ev) = some (fl, vf) ∧ a.tmps.getD d Go.undef = u ∧
    S (gm j) = some ob ∧ z ≤ gm j ∧ Fresh G n E fl ob Cn ∧ ∀ m E2, VR G (m + 1) (upd E2 m ⟨gm j, 0, Cn⟩) (vf m) u
theorem PendAt.move {S S' : Prot} {z n n' : Nat} {l : List AOper} {st : Nat → AState} {E E' : Nat → Ent} {a a' : Act} {gm gm' : Nat → Nat} {j : Nat} (h : PendAt G S z l st n E a gm j) (hn : n ≤ n') (hE : Ext n E E')
    (ha : ∀ y d, l[j]? = some y → y.dst = some d → a'.tmps.getD d Go.undef = a.tmps.getD d Go.undef) (hS : S' (gm' j) = S (gm j)) (hg : gm' j = gm j) : PendAt G S' z l st n' E' a' gm' j := by
  obtain ⟨y, d, fl, vf, u, ob, Cn, q1, q2, q3, q4, q5, q6, q7, q8⟩ := h
  exact ⟨y, d, fl, vf, u, ob, Cn, q1, q2, q3, by rw [ha y d q1 q2]; exact q4, by rw [hS]; exact q5, by rw [hg]; exact q6, q7.mono hn hE, by rw [hg]; exact q8⟩
structure Inv (G : Nat → Nat) (B0 : Prot) (w0 : Base) (nt : Nat) (l : List AOper) (st : Nat → AState) (val : Nat → AV) (D F : Nat → Bool) (gm : Nat → Nat) (S : Prot) (E : Nat → Ent) (a : Act) (w : World) : Prop where
  clD : Closed l D
  clF : Closed l F
  pre : Pre l F
  sub : ∀ j, F j = true → D j = true
  flo : ∀ j, Pend l D F j → floOk l j = true
  str : StR G S w0 nt E (envP l D F (stateOf l st val F).1, (stateOf l st val F).2) a w
  pend : ∀ j, Pend l D F j → PendAt G S w0.heap.size l st (stateOf l st val F).2.next E a gm j
  inj : ∀ i j, Pend l D F i → Pend l D F j → i ≠ j → gm i ≠ gm j
  ext : Sub B0 S
  only : ∀ g o, S g = some o → B0 g = some o ∨ ∃ j, Pend l D F j ∧ gm j = g
  new : ∀ j, Pend l D F j → B0 (gm j) = none
/-- Each one that is kept back waits for a writer. -/
def Norm (l : List AOper) (D F : Nat → Bool) : Prop := ∀ j, Pend l D F j → ∃ k, k < j ∧ isW l k = true ∧ D k = false
theorem flo_parts {o : AOper} (h : o.flo = true) : o.guard = none ∧ (∃ d, o.dst = some d ∧ d ≠ dfrT) ∧ floP o.opc = true := by
  unfold AOper.flo at h
  simp only [Bool.and_eq_true, Option.isNone_iff_eq_none] at h
  obtain ⟨⟨h1, h2⟩, h3⟩ := h
  refine ⟨h1, ?_, ?_⟩
  · cases hd : o.dst with
    | none => simp [hd] at h2
    | some d => simp [hd] at h2; exact ⟨d, rfl, Nat.ne_of_lt h2⟩
  · split at h3 <;> simp_all [floP]
theorem floOk_flo {l : List AOper} {j : Nat} {y : AOper} (h : floOk l j = true) (hy : l[j]? = some y) : y.flo = true := by
  unfold floOk at h
  simp only [hy, Bool.and_eq_true] at h
  exact h.1
theorem flo_osem {C : CallF} {o : AOpc} {vs : List AV} {fl : Fl} {vf : Nat → AV} (h : floRes o vs = some (fl, vf)) (H : AHeap) : osem C o vs H = some (vf H.next, H.mk_ fl) := by
  unfold floRes at h
  split at h
  · split at h
    · rename_i hc
      simp only [Option.some.injEq, Prod.mk.injEq] at h
      obtain ⟨rfl, rfl⟩ := h
      simp only [osem, wsem]
      rw [if_pos hc]
      rfl
    · cases h
  · split at h
    · rename_i hf
      split at h
      · rename_i hc
        simp only [Option.some.injEq, Prod.mk.injEq] at h
        obtain ⟨rfl, rfl⟩ := h
        simp only [osem, wsem, hf]
        rw [if_pos hc]
        rfl
      · cases h
    · cases h
  · split at h
    · rename_i hc
      simp only [Option.some.injEq, Prod.mk.injEq] at h
      obtain ⟨rfl, rfl⟩ := h
      simp only [osem, wsem]
      rw [if_pos hc]
      rfl
    · cases h
  · simp only [Option.some.injEq, Prod.mk.injEq] at h
    obtain ⟨rfl, rfl⟩ := h
    rfl
  · cases h
theorem flo_some {C : CallF} {o : AOpc} {vs : List AV} {H : AHeap} {r : AV × AHeap} (hp : floP o = true) (h : osem C o vs H = some r) : ∃ fl vf, floRes o vs = some (fl, vf) := by
  cases o with
  | p q => simp [floP] at hp
  | r q => simp [floP] at hp
  | w q =>
    cases q <;> simp only [floP, Bool.false_eq_true] at hp
    · match vs, h with
      | [v], h =>
        simp only [osem, wsem] at h
        split at h
        · rename_i hc
          exact ⟨.row v.cells, _, by simp only [floRes]; rw [if_pos hc]⟩
        · cases h
    · rename_i sz len zero at_
      simp only [osem, wsem] at h
      cases hf : fill zero at_ vs with
      | none => simp [hf] at h
      | some cs =>
        simp only [hf] at h
        split at h
        · rename_i hc
          exact ⟨.row cs, _, by simp only [floRes, hf]; rw [if_pos hc]⟩
        · cases h
    · rename_i bytes zero
      simp only [osem] at h
      unfold wsem at h
      split at h <;> first
        | (rename_i e _; cases e; done)
        | skip
      all_goals first
        | (rename_i heq; cases heq
           split at h
           · rename_i hc
             exact ⟨_, _, by simp only [floRes]; rw [if_pos hc]⟩
           · cases h)
        | (rename_i heq _; cases heq
           split at h
           · rename_i hc
             exact ⟨_, _, by simp only [floRes]; rw [if_pos hc]⟩
           · cases h)
        | (simp_all; done)
        | (cases h; done)
    · cases vs with
      | nil => exact ⟨.map, _, rfl⟩
      | cons v vs => simp [osem, wsem] at h
theorem step1_congr {C : CallF} {o : AOper} {e e' : Env} {H : AHeap} (h : ∀ t ∈ o.looks, e t = e' t) : step1 C o (e, H) = step1 C o (e', H) := by
  obtain ⟨h1, h2⟩ := ev_congr (o := o) h
  unfold step1
  rw [h1, h2]
theorem floOk_flo' {l : List AOper} {j : Nat} (h : floOk l j = true) : ∃ y, l[j]? = some y ∧ y.flo = true := by
  unfold floOk at h
  cases hy : l[j]? with
  | none => simp [hy] at h
  | some y => simp only [hy, Bool.and_eq_true] at h; exact ⟨y, rfl, h.1⟩
/-- The deferred calls are not kept back. -/
theorem pendT_dfr {l : List AOper} {D F : Nat → Bool} (h : ∀ j, Pend l D F j → floOk l j = true) : pendT l D F dfrT = false := by
  cases hp : pendT l D F dfrT with
  | false => rfl
  | true =>
    exfalso
    obtain ⟨j, y, p1, p2, p3⟩ := pendT_iff.1 hp
    obtain ⟨y', q1, q2⟩ := floOk_flo' (h j p1)
    rw [p2] at q1; simp at q1; subst q1
    obtain ⟨_, ⟨d, e1, e2⟩, _⟩ := flo_parts q2
    rw [p3] at e1; simp at e1; exact e2 e1.symm
theorem envP_dfr {l : List AOper} {D F : Nat → Bool} {e : Env} (h : ∀ j, Pend l D F j → floOk l j = true) : envP l D F e dfrT = e dfrT := by
  unfold envP; rw [if_neg]; rw [pendT_dfr h]; simp
section early
variable {S0 : Prot} {S : Prot} {nt : Nat} {ops : Array Oper} {l : List AOper} {st : Nat → AState} {val : Nat → AV} {D F : Nat → Bool} {gm : Nat → Nat} {E : Nat → Ent} {a : Act} {w : World}
/-- One that was kept back comes into the small machine's heap. -/
theorem Inv.mat (hran : Ran C l st val) (chk : Chk l) (hfl : FloatsOk l st val) (h : Inv G S0 w0 nt l st val D F gm S E a w) {j : Nat} (hj : Pend l D F j) (hw : ∀ k, k < j → isW l k = true → F k = true) (hd : ∀ y, l[j]? = some y → ∀ d ∈ y.deps, F d = true) :
    ∃ E' S', Inv G S0 w0 nt l st val D (fun k => F k || k == j) gm S' E' a w ∧ Ext (stateOf l st val F).2.next E E' ∧ (stateOf l st val F).2.next ≤ (stateOf l st val (fun k => F k || k == j)).2.next := by
  obtain ⟨y, d, cs, vf, u, ob, Cn, q1, q2, q3, q4, q5, q6, q7, q8⟩ := h.pend j hj
  obtain ⟨hjl, hDj, hFj⟩ := hj
  have hstep := stateOf_step hran chk hfl h.clF h.pre q1 hFj (hd y q1) (fun _ => hw)
  obtain ⟨hargs, _⟩ := ev_congr (o := y) (stateOf_looks hran chk h.clF q1 hFj (hd y q1))
  obtain ⟨g1, g2, g3⟩ := flo_parts (floOk_flo (h.flo j ⟨hjl, hDj, hFj⟩) q1)
  obtain ⟨s, hs⟩ : ∃ s, stateOf l st val F = s := ⟨_, rfl⟩
  obtain ⟨s', hs'⟩ : ∃ s', stateOf l st val (fun k => F k || k == j) = s' := ⟨_, rfl⟩
  rw [hs, hs'] at hstep
  rw [hs] at hargs q7
  have hstr := h.str
  rw [hs] at hstr
  have e1 : s' = (s.1.put y.dst (vf s.2.next), s.2.mk_ cs) := by
    unfold aop step1 at hstep
    rw [g1] at hstep
    simp only [wanted] at hstep
    rw [hargs, flo_osem q3] at hstep
    simp only [Option.some.injEq] at hstep
    exact hstep.symm
  have pend' : ∀ i, Pend l D (fun k => F k || k == j) i → Pend l D F i ∧ i ≠ j := by
    rintro i ⟨p1, p2, p3⟩
    simp only [Bool.or_eq_false_iff, beq_eq_false_iff_ne] at p3
    exact ⟨⟨p1, p2, p3.1⟩, p3.2⟩
  have hpj : Pend l D F j := ⟨hjl, hDj, hFj⟩
  have hmat := hstr.heap.matF q5 q6 q7
  have hnx : (s.2.mk_ cs).next = s.2.next + 1 := mk_next _ _
  refine ⟨upd E s.2.next ⟨gm j, 0, Cn⟩, S.del (gm j), ⟨h.clD, ?_, ?_, ?_, fun i hi => h.flo i (pend' i hi).1, ?_, ?_, ?_, ?_, ?_, fun i hi => h.new i (pend' i hi).1⟩, by rw [hs]; exact ext_upd _ _ _, ?_⟩
  · intro i x hx hi d' hd'
    simp only [Bool.or_eq_true, beq_iff_eq] at hi ⊢
    rcases hi with hi | rfl
    · exact .inl (h.clF i x hx hi d' hd')
    · rw [q1] at hx; simp at hx; subst hx
      exact .inl (hd y q1 d' hd')
  · intro i k hik hi hk hFk
    simp only [Bool.or_eq_true, beq_iff_eq] at hFk ⊢
    rcases hFk with hFk | rfl
    · exact .inl (h.pre i k hik hi hk hFk)
    · exact .inl (hw i hik hi)
  · intro i hi
    simp only [Bool.or_eq_true, beq_iff_eq] at hi
    rcases hi with hi | rfl
    · exact h.sub i hi
    · exact hDj
  · rw [hs', e1]
    have hdf : DefR G (s.2.next + 1) (upd E s.2.next ⟨gm j, 0, Cn⟩) (envP l D (fun k => F k || k == j) (s.1.put y.dst (vf s.2.next)) dfrT) a.defers := by
      have h1 : DefR G s.2.next E (envP l D F s.1 dfrT) a.defers := hstr.defers
      rw [show envP l D F s.1 dfrT = s.1 dfrT from envP_dfr h.flo] at h1
      rw [envP_dfr fun i hi => h.flo i (pend' i hi).1]
      have : (s.1.put y.dst (vf s.2.next)) dfrT = s.1 dfrT := by
        obtain ⟨d', e1, e2⟩ := g2
        rw [e1]; exact upd_ne _ _ _ (Ne.symm e2)
      rw [this]
      exact h1.mono (Nat.le_succ _) (ext_upd _ _ _)
    refine ⟨fun t htd => ?_, hmat, hstr.cap, hstr.nt, hdf⟩
    show VR G (s.2.next + 1) _ (envP l D (fun k => F k || k == j) (s.1.put y.dst (vf s.2.next)) t) _
    unfold envP
    split
    · trivial
    · rename_i hp
      rw [put_get, q2]
      split
      · rename_i ht
        simp only [Option.some.injEq] at ht
        subst ht
        rw [q4]; exact q8 _ _
      · rename_i ht
        have he := hstr.env t htd
        have hnp : pendT l D F t = false := by
          cases hpt : pendT l D F t with
          | false => rfl
          | true =>
            exfalso
            obtain ⟨i, z, p1, p2, p3⟩ := pendT_iff.1 hpt
            by_cases hij : i = j
            · subst hij; rw [q1] at p2; simp at p2; subst p2; rw [q2] at p3; exact ht (by simpa using p3)
            · apply hp
              exact pendT_iff.2 ⟨i, z, ⟨p1.1, p1.2.1, by simp [p1.2.2, hij]⟩, p2, p3⟩
        have he : VR G s.2.next E (if pendT l D F t = true then AV.undef else s.1 t) _ := he
        rw [hnp] at he
        exact VR.mono (Nat.le_succ _) (ext_upd _ _ _) he
  · intro i hi
    obtain ⟨p1, p2⟩ := pend' i hi
    have hk := h.pend i p1
    rw [hs] at hk
    rw [hs', e1]
    refine hk.move (Nat.le_succ _) (ext_upd _ _ _) (fun _ _ _ _ => rfl) ?_ rfl
    unfold Prot.del
    rw [if_neg (h.inj i j p1 hpj p2)]
  · intro i k hi hk hne
    exact h.inj i k (pend' i hi).1 (pend' k hk).1 hne
  · intro g o hg
    have := h.ext g o hg
    unfold Prot.del
    rw [if_neg]
    · exact this
    · intro e; subst e; rw [h.new j hpj] at hg; cases hg
  · intro g o hg
    unfold Prot.del at hg
    split at hg
    · cases hg
    · rename_i hne
      rcases h.only g o hg with k | ⟨i, p1, p2⟩
      · exact .inl k
      · refine .inr ⟨i, ⟨p1.1, p1.2.1, ?_⟩, p2⟩
        have : i ≠ j := by intro e; subst e; exact hne p2.symm
        simp [p1.2.2, this]
  · rw [hs, hs', e1]; exact Nat.le_succ _
/-- What waits no more comes in. -/
theorem Inv.norm (hran : Ran C l st val) (chk : Chk l) (hfl : FloatsOk l st val) : ∀ (m : Nat) {F : Nat → Bool} {S : Prot} {E : Nat → Ent}, left (fun j => !(D j) || F j) l.length ≤ m → Inv G S0 w0 nt l st val D F gm S E a w →
    ∃ F' S' E', Inv G S0 w0 nt l st val D F' gm S' E' a w ∧ Norm l D F' ∧ Ext (stateOf l st val F).2.next E E' ∧ (stateOf l st val F).2.next ≤ (stateOf l st val F').2.next := by
  intro m
  induction m with
  | zero =>
    intro F S E hm h
    refine ⟨F, S, E, h, ?_, Ext.refl _ _, Nat.le_refl _⟩
    rintro j ⟨h1, h2, h3⟩
    have := left_zero (D := fun j => !(D j) || F j) l.length (by omega) j h1
    simp [h2, h3] at this
  | succ m ih =>
    intro F S E hm h
    rcases Classical.em (∃ j, Pend l D F j ∧ ∀ k, k < j → isW l k = true → D k = true) with ⟨j0, hj0⟩ | hno
    · -- the least of them
      have least : ∃ j, (Pend l D F j ∧ ∀ k, k < j → isW l k = true → D k = true) ∧ ∀ i, i < j → ¬ (Pend l D F i ∧ ∀ k, k < i → isW l k = true → D k = true) := by
        clear hm ih
        induction j0 using Nat.strongRecOn with
        | _ j0 ihj =>
          rcases Classical.em (∃ i, i < j0 ∧ Pend l D F i ∧ ∀ k, k < i → isW l k = true → D k = true) with ⟨i, h1, h2⟩ | hn
          · exact ihj i h1 h2
          · exact ⟨j0, hj0, fun i hi hc => hn ⟨i, hi, hc⟩⟩
      obtain ⟨j, ⟨hp, hall⟩, hmin⟩ := least
      obtain ⟨hjl, hDj, hFj⟩ := hp
      have hF : ∀ k, k < j → (∀ q, q < k → isW l q = true → D q = true) → D k = true → F k = true := by
        intro k hk hq hDk
        cases hFk : F k with
        | true => rfl
        | false => exact absurd ⟨⟨by omega, hDk, hFk⟩, hq⟩ (hmin k hk)
      have hw : ∀ k, k < j → isW l k = true → F k = true := fun k hk hkw => hF k hk (fun q hq hqw => hall q (by omega) hqw) (hall k hk hkw)
      have hd : ∀ y, l[j]? = some y → ∀ d ∈ y.deps, F d = true := by
        intro y hy d hd
        have hdj := (chk.back j y hy d hd).1
        exact hF d hdj (fun q hq hqw => hall q (by omega) hqw) (h.clD j y hy hDj d hd)
      obtain ⟨E1, S1, k1, k2, k3⟩ := h.mat hran chk hfl ⟨hjl, hDj, hFj⟩ hw hd
      have hfun : (fun i => !(D i) || (F i || i == j)) = fun i => (!(D i) || F i) || i == j := by funext i; rw [Bool.or_assoc]
      have hl := left_step (D := fun i => !(D i) || F i) (i := j) (by simp [hDj, hFj]) l.length hjl
      obtain ⟨F2, S2, E2, r1, r2, r3, r4⟩ := ih (by rw [hfun]; omega) k1
      exact ⟨F2, S2, E2, r1, r2, k2.trans r3 k3, Nat.le_trans k3 r4⟩
    · refine ⟨F, S, E, h, ?_, Ext.refl _ _, Nat.le_refl _⟩
      intro j hj
      apply Classical.byContradiction
      intro hn
      apply hno
      refine ⟨j, hj, fun k hk hkw => ?_⟩
      cases hDk : D k with
      | true => rfl
      | false => exact absurd ⟨k, hk, hkw, hDk⟩ hn
/-- What is ready waits for nothing that is kept back, and does not name it. -/
theorem Inv.ready (chk : Chk l) (h : Inv G S0 w0 nt l st val D F gm S E a w) (hn : Norm l D F) {i : Nat} {x : AOper} (hx : l[i]? = some x) (hi : D i = false) (hd : ∀ d ∈ x.deps, D d = true) :
    (∀ d ∈ x.deps, F d = true) ∧ (∀ j y d, Pend l D F j → l[j]? = some y → y.dst = some d → d ∉ x.looks ∧ x.dst ≠ some d) := by
  have nodep : ∀ j, Pend l D F j → j ∉ x.deps := by
    intro j hj hm
    obtain ⟨k, k1, k2, k3⟩ := hn j hj
    obtain ⟨b, hb, hbw⟩ := isW_get k2
    have := floOk_dep (h.flo j hj) hx hm (chk.back i x hx j hm).1 k1 hb hbw
    rw [hd k this] at k3; cases k3
  refine ⟨fun d hm => ?_, fun j y d hj hy hdst => ?_⟩
  · cases hF : F d with
    | true => rfl
    | false =>
      have hl : d < l.length := by
        obtain ⟨h1, y, hy, _⟩ := chk.back i x hx d hm
        exact (List.getElem?_eq_some_iff.1 hy).1
      exact absurd hm (nodep d ⟨hl, hd d hm, hF⟩)
  · have hne : i ≠ j := by intro e; subst e; rw [hj.2.1] at hi; cases hi
    rcases Nat.lt_or_gt_of_ne hne with hlt | hgt
    · have : i ∉ y.deps := by
        intro hm
        rw [h.clD j y hy hj.2.1 i hm] at hi; cases hi
      obtain ⟨n1, n2⟩ := chk.names i j x y hlt hx hy this
      refine ⟨n2 d hdst, fun e => (n1 d e).2 hdst⟩
    · obtain ⟨n1, n2⟩ := chk.names j i y x hgt hy hx (nodep j hj)
      exact n1 d hdst
theorem Inv.looks (hran : Ran C l st val) (chk : Chk l) (h : Inv G S0 w0 nt l st val D F gm S E a w) (hn : Norm l D F) {i : Nat} {x : AOper} (hx : l[i]? = some x) (hi : D i = false) (hd : ∀ d ∈ x.deps, D d = true) :
    ∀ t ∈ x.looks, envP l D F (stateOf l st val F).1 t = (stateOf l st val F).1 t := by
  intro t ht
  unfold envP
  rw [if_neg]
  intro hp
  obtain ⟨j, y, p1, p2, p3⟩ := pendT_iff.1 hp
  exact ((h.ready chk hn hx hi hd).2 j y t p1 p2 p3).1 ht
theorem put_other {a : Act} {d : Option Nat} {u : Value} {t : Nat} (h : d ≠ some t) : (a.put d u).tmps.getD t Go.undef = a.tmps.getD t Go.undef := by
  cases d with
  | none => rfl
  | some d =>
    have : d ≠ t := fun e => h (by rw [e])
    simp [Act.put, Array.getD_eq_getD_getElem?, Array.getElem?_setIfInBounds_ne this]
theorem put_same {a : Act} {d : Nat} {u : Value} (h : d < a.tmps.size) : (a.put (some d) u).tmps.getD d Go.undef = u := by
  simp [Act.put, Array.getD, h]
/-- One that comes early. -/
theorem Inv.early {ro : Option Nat} (hran : Ran C l st val) (chk : Chk l) (hops : OpsR P G nt ops l) (h : Inv G S0 w0 nt l st val D F gm S E a w) (hn : Norm l D F) {i : Nat} {o : Oper} {x : AOper} (ho : ops[i]? = some o) (hx : l[i]? = some x) (hi : D i = false) (hd : ∀ d ∈ x.deps, D d = true)
    (hfo : floOk l i = true) {K : Act → World → Prop} {Q : Exit → Act → World → Prop}
    (hK : ∀ a' w' S' gm', Inv G S0 w0 nt l st val (fun k => D k || k == i) F gm' S' E a' w' → K a' w') : wpOpIn (FR ro) 0 P ops Q i K a w := by
  obtain ⟨c1, c2, c3, c4⟩ := hops.op i o x ho hx
  obtain ⟨g1, ⟨d, g2, g2'⟩, g3⟩ := flo_parts (floOk_flo hfo hx)
  have c2 : x.dst = o.dst := by
    rcases c2 with ⟨_, c2⟩ | ⟨isd, _, _, c2⟩
    · exact c2
    · rw [g2] at c2; simp at c2; exact absurd c2 g2'
  obtain ⟨r1, r2⟩ := h.ready chk hn hx hi hd
  have hFi : F i = false := by
    cases hF : F i with
    | false => rfl
    | true => rw [h.sub i hF] at hi; cases hi
  have hil : i < l.length := (List.getElem?_eq_some_iff.1 hx).1
  have lk1 := h.looks hran chk hn hx hi hd
  have lk2 := stateOf_looks hran chk h.clF hx hFi r1
  have lk : ∀ t ∈ x.looks, envP l D F (stateOf l st val F).1 t = (st i).1 t := fun t ht => (lk1 t ht).trans (lk2 t ht)
  obtain ⟨hargs, _⟩ := ev_congr (o := x) lk
  -- what it makes in the text's order
  have hst := hran.step i x hx
  unfold step1 at hst
  rw [g1] at hst
  simp only [wanted] at hst
  obtain ⟨cs, vf, hfr⟩ := flo_some g3 hst
  have hfr' := hfr
  rw [← hargs] at hfr'
  have c1' : compileOp0 P G o = some (x.opc, x.args) := (compileOp_cases c1).resolve_right fun e => by rw [e] at g3; simp [floP] at g3
  obtain ⟨u, ob, Cn, n1, n2, n6⟩ := flo_run (w := w) c1' h.str.env hfr'
  have hdl : d < a.tmps.size := Nat.lt_of_lt_of_le (c3 d (by rw [← c2]; exact g2)) h.str.nt
  have hod : o.dst = some d := by rw [← c2]; exact g2
  unfold wpOpIn
  simp only [ho]
  have hwb := wanted_eq h.str c4 (b := true) (by rw [g1]; rfl) o rfl
  rw [hwb]
  simp only [if_true]
  have nd : isDfr o.op = false := by
    rcases hops.op i o x ho hx with ⟨_, ⟨nd, _⟩ | ⟨isd, _, _, e2⟩, _, _⟩
    · exact nd
    · rw [g2] at e2; simp at e2; exact absurd e2 g2'
  refine wpIn_op (not_dfr nd) n1 ?_
  -- what is known then
  have pend' : ∀ k, Pend l (fun k => D k || k == i) F k → k = i ∨ Pend l D F k := by
    rintro k ⟨p1, p2, p3⟩
    simp only [Bool.or_eq_true, beq_iff_eq] at p2
    rcases p2 with p2 | p2
    · exact .inr ⟨p1, p2, p3⟩
    · exact .inl p2
  have pendi : Pend l (fun k => D k || k == i) F i := ⟨hil, by simp, hFi⟩
  have notI : ∀ k, Pend l D F k → k ≠ i := fun k hk e => by
    have := hk.2.1; rw [e, hi] at this; cases this
  have glt : ∀ k, Pend l D F k → gm k < w.heap.size := by
    intro k hk
    obtain ⟨y, d', cs', vf', u', ob', Cn', q1, q2, q3, q4, q5, q6, _⟩ := h.pend k hk
    exact h.str.heap.size _ (by rw [q5]; simp)
  refine hK (a.put o.dst u) _ (S.put w.heap.size ob) (upd gm i w.heap.size) ⟨?_, h.clF, h.pre, ?_, ?_, ?_, ?_, ?_, ?_, ?_, ?_⟩
  · intro k y hy hk d' hd'
    simp only [Bool.or_eq_true, beq_iff_eq] at hk ⊢
    rcases hk with hk | rfl
    · exact .inl (h.clD k y hy hk d' hd')
    · rw [hx] at hy; simp at hy; subst hy
      exact .inl (hd d' hd')
  · intro k hk; simp [h.sub k hk]
  · intro k hk
    rcases pend' k hk with rfl | hk
    · exact hfo
    · exact h.flo k hk
  · have hdf : DefR G (stateOf l st val F).2.next E (envP l (fun k => D k || k == i) F (stateOf l st val F).1 dfrT) (a.put o.dst u).defers := by
      rw [put_defers]
      have h1 : DefR G (stateOf l st val F).2.next E (envP l D F (stateOf l st val F).1 dfrT) a.defers := h.str.defers
      rw [show envP l D F (stateOf l st val F).1 dfrT = (stateOf l st val F).1 dfrT from envP_dfr h.flo] at h1
      rw [envP_dfr]
      · exact h1
      · intro k hk
        rcases pend' k hk with rfl | hk
        · exact hfo
        · exact h.flo k hk
    refine ⟨fun t htd0 => ?_, h.str.heap.guard _, h.str.cap, by rw [put_size]; exact h.str.nt, hdf⟩
    show VR G _ _ (envP l (fun k => D k || k == i) F (stateOf l st val F).1 t) _
    unfold envP
    split
    · trivial
    · rename_i hp
      have htd : t ≠ d := by
        rintro rfl
        exact hp (pendT_iff.2 ⟨i, x, pendi, hx, g2⟩)
      have he : VR G _ E (if pendT l D F t = true then AV.undef else (stateOf l st val F).1 t) _ := h.str.env t htd0
      rw [if_neg] at he
      · rw [put_other (by rw [hod]; intro e'; simp at e'; exact htd e'.symm)]; exact he
      · intro hpt
        obtain ⟨k, y, p1, p2, p3⟩ := pendT_iff.1 hpt
        exact hp (pendT_iff.2 ⟨k, y, ⟨p1.1, by simp [p1.2.1], p1.2.2⟩, p2, p3⟩)
  · intro k hk
    rcases pend' k hk with rfl | hk
    · refine ⟨x, d, cs, vf, u, ob, Cn, hx, g2, hfr, by rw [hod]; exact put_same hdl, ?_, ?_, n2, ?_⟩
      · rw [upd_same]; unfold Prot.put; rw [if_pos rfl]
      · rw [upd_same]; exact h.str.heap.below.size
      · rw [upd_same]; exact n6
    · have hne : k ≠ i := notI k hk
      refine (h.pend k hk).move (Nat.le_refl _) (Ext.refl _ _) (fun y d' hy hd' => ?_) ?_ (upd_ne _ _ _ hne)
      · exact put_other (by rw [← c2]; exact (r2 k y d' hk hy hd').2)
      · rw [upd_ne _ _ _ hne]; unfold Prot.put; rw [if_neg (by have := glt k hk; omega)]
  · intro p q hp hq hne
    rcases pend' p hp with hp1 | hp1
    · rcases pend' q hq with hq1 | hq1
      · exact absurd (hp1.trans hq1.symm) hne
      · rw [hp1, upd_same, upd_ne _ _ _ (notI q hq1)]; have := glt q hq1; omega
    · rcases pend' q hq with hq1 | hq1
      · rw [hq1, upd_same, upd_ne _ _ _ (notI p hp1)]; have := glt p hp1; omega
      · rw [upd_ne _ _ _ (notI p hp1), upd_ne _ _ _ (notI q hq1)]; exact h.inj p q hp1 hq1 hne
  · intro g ob hg
    have := h.ext g ob hg
    have hlt := h.str.heap.size g (by rw [this]; simp)
    unfold Prot.put
    rw [if_neg (by omega)]; exact this
  · intro g ob hg
    unfold Prot.put at hg
    split at hg
    · rename_i eg
      exact .inr ⟨i, pendi, by rw [upd_same]; exact eg.symm⟩
    · rcases h.only g ob hg with k | ⟨k, p1, p2⟩
      · exact .inl k
      · have hki : k ≠ i := notI k p1
        exact .inr ⟨k, ⟨p1.1, by simp [p1.2.1], p1.2.2⟩, by rw [upd_ne _ _ _ hki]; exact p2⟩
  · intro k hk
    rcases pend' k hk with rfl | hk
    · rw [upd_same]
      cases hb : S0 w.heap.size with
      | none => rfl
      | some ob =>
        have := h.ext _ _ hb
        rw [h.str.heap.free] at this; cases this
    · have hki : k ≠ i := notI k hk
      rw [upd_ne _ _ _ hki]; exact h.new k hk
/-- The trace under another oracle. -/
theorem Inv.retrace (chk : Chk l) (h : Inv G S0 w0 nt l st val D F gm S E a w) (hn : Norm l D F) {st' : Nat → AState} {val' : Nat → AV} (same : stateOf l st' val' F = stateOf l st val F)
    (lk : ∀ j x, l[j]? = some x → F j = false → (∀ d ∈ x.deps, F d = true) → ∀ t ∈ x.looks, (st' j).1 t = (st j).1 t) : Inv G S0 w0 nt l st' val' D F gm S E a w := by
  refine ⟨h.clD, h.clF, h.pre, h.sub, h.flo, by rw [same]; exact h.str, fun j hj => ?_, h.inj, h.ext, h.only, h.new⟩
  obtain ⟨y, d, cs, vf, u, ob, Cn, q1, q2, q3, q4, q5, q6, q7, q8⟩ := h.pend j hj
  have hd : ∀ d ∈ y.deps, F d = true := by
    intro d hd
    cases hF : F d with
    | true => rfl
    | false =>
      have hDd := h.clD j y q1 hj.2.1 d hd
      obtain ⟨hdj, z, hz, _⟩ := chk.back j y q1 d hd
      have hp : Pend l D F d := ⟨(List.getElem?_eq_some_iff.1 hz).1, hDd, hF⟩
      obtain ⟨k, k1, k2, k3⟩ := hn d hp
      obtain ⟨b, hb, hbw⟩ := isW_get k2
      have := floOk_dep (h.flo d hp) q1 hd hdj k1 hb hbw
      rw [h.clD j y q1 hj.2.1 k this] at k3; cases k3
  obtain ⟨hargs, _⟩ := ev_congr (o := y) (lk j y q1 hj.2.2 hd)
  exact ⟨y, d, cs, vf, u, ob, Cn, q1, q2, by rw [hargs]; exact q3, q4, q5, q6, by rw [same]; exact q7, q8⟩
/-- One that comes in its place. -/
theorem Inv.late {ro : Option Nat} {CO : Ora → CallF} (hC : CallOk P G S0 w0 CO) {ω : Ora} (hran : Ran (CO ω) l st val) (chk : Chk l) (hfl : FloatsOk l st val) (hops : OpsR P G nt ops l) (hnd : NoD ro ops) (h : Inv G S0 w0 nt l st val D F gm S E a w) (hn : Norm l D F) {i : Nat} {o : Oper} {x : AOper} (ho : ops[i]? = some o) (hx : l[i]? = some x) (hi : D i = false) (hd : ∀ d ∈ x.deps, D d = true)
    (hw : x.opc.isW = true → ∀ k, k < i → isW l k = true → D k = true)
    (fam : ∀ ω', Agree ω ω' (stateOf l st val F).2.next → ∃ st' val', Ran (CO ω') l st' val' ∧ FloatsOk l st' val' ∧ st' 0 = st 0) {K : Act → World → Prop} {Q : Exit → Act → World → Prop}
    (hK : ∀ ω' st' val', Agree ω ω' (stateOf l st val F).2.next → Ran (CO ω') l st' val' → FloatsOk l st' val' → st' 0 = st 0 → ∀ a' w' E', Ext (stateOf l st val F).2.next E E' → (stateOf l st val F).2.next ≤ (stateOf l st' val' (fun k => F k || k == i)).2.next → Inv G S0 w0 nt l st' val' (fun k => D k || k == i) (fun k => F k || k == i) gm S E' a' w' → K a' w') : wpOpIn (FR ro) 0 P ops Q i K a w := by
  obtain ⟨c1, c2, c3, c4⟩ := hops.op i o x ho hx
  obtain ⟨r1, r2⟩ := h.ready chk hn hx hi hd
  have hFi : F i = false := by
    cases hF : F i with
    | false => rfl
    | true => rw [h.sub i hF] at hi; cases hi
  have hil : i < l.length := (List.getElem?_eq_some_iff.1 hx).1
  have hwF : x.opc.isW = true → ∀ k, k < i → isW l k = true → F k = true := by
    intro hxw k hk hkw
    cases hF : F k with
    | true => rfl
    | false =>
      obtain ⟨q, q1, q2, q3⟩ := hn k ⟨by omega, hw hxw k hk hkw, hF⟩
      rw [hw hxw q (by omega) q2] at q3; cases q3
  have lk := h.looks hran chk hn hx hi hd
  obtain ⟨s, hs⟩ : ∃ s, stateOf l st val F = s := ⟨_, rfl⟩
  have hstr := h.str
  rw [hs] at lk hstr fam hK
  -- what each oracle's trace gives
  have each : ∀ ω', Agree ω ω' s.2.next → ∃ st' val', Ran (CO ω') l st' val' ∧ FloatsOk l st' val' ∧ st' 0 = st 0 ∧ Inv G S0 w0 nt l st' val' D F gm S E a w ∧ stateOf l st' val' F = s ∧
      aop (CO ω') x s = some (stateOf l st' val' (fun k => F k || k == i)) := by
    intro ω' hag
    obtain ⟨st', val', q1, q2, q3⟩ := fam ω' hag
    obtain ⟨same, lks⟩ := Go.Am.retrace hran q1 chk hfl q2 q3.symm h.clF h.pre (hC.pr ω ω' s.2.next hag) (by rw [hs]; exact Nat.le_refl _)
    have hstep := stateOf_step q1 chk q2 h.clF h.pre hx hFi r1 hwF
    rw [same, hs] at hstep
    exact ⟨st', val', q1, q2, q3, h.retrace chk hn same lks, by rw [same, hs], hstep⟩
  have cong : ∀ ω', aop (CO ω') x (envP l D F s.1, s.2) = (match step1 (CO ω') x s with | some (v, H') => some ((envP l D F s.1).put x.dst v, H') | none => none) := by
    intro ω'
    unfold aop
    rw [step1_congr (e := envP l D F s.1) (e' := s.1) lk]
    rfl
  have pend' : ∀ k, Pend l (fun k => D k || k == i) (fun k => F k || k == i) k → Pend l D F k := by
    rintro k ⟨p1, p2, p3⟩
    simp only [Bool.or_eq_false_iff, beq_eq_false_iff_ne] at p3
    simp only [Bool.or_eq_true, beq_iff_eq] at p2
    exact ⟨p1, p2.resolve_right p3.2, p3.1⟩
  have pend2 : ∀ k, Pend l D F k → Pend l (fun k => D k || k == i) (fun k => F k || k == i) k := by
    rintro k ⟨p1, p2, p3⟩
    have : k ≠ i := by rintro rfl; rw [p2] at hi; cases hi
    exact ⟨p1, by simp [p2], by simp [p3, this]⟩
  refine step_sound (hC.sub h.ext) hops ho hx (hnd.op ho) hstr (ω := ω) (fun ω' hag => ?_) (fun ω' sx hag hsx a' w' E' hu e2 e3 hr' => ?_)
  · obtain ⟨st', val', _, _, _, _, _, hstep⟩ := each ω' hag
    rw [cong ω']
    unfold aop at hstep
    cases hv : step1 (CO ω') x s with
    | none => simp [hv] at hstep
    | some p => exact ⟨_, rfl⟩
  obtain ⟨st', val', hran', hfl', h0', h', hs'', hstep⟩ := each ω' hag
  obtain ⟨s', hs'⟩ : ∃ s', stateOf l st' val' (fun k => F k || k == i) = s' := ⟨_, rfl⟩
  rw [hs'] at hstep
  -- the value
  obtain ⟨v, H', hv, e1⟩ : ∃ v H', step1 (CO ω') x s = some (v, H') ∧ s' = (s.1.put x.dst v, H') := by
    unfold aop at hstep
    cases hv : step1 (CO ω') x s with
    | none => simp [hv] at hstep
    | some p => obtain ⟨v, H'⟩ := p; simp [hv] at hstep; exact ⟨v, H', rfl, hstep.symm⟩
  have hsx2 : sx = ((envP l D F s.1).put x.dst v, H') := by
    rw [cong ω', hv] at hsx
    simp only [Option.some.injEq] at hsx
    exact hsx.symm
  subst hsx2
  have x2 : ∀ t, x.dst ≠ some t → o.dst ≠ some t := by
    intro t ht
    rcases c2 with ⟨_, c2⟩ | ⟨_, c2, _, _⟩
    · rw [← c2]; exact ht
    · rw [c2]; simp
  refine hK ω' st' val' hag hran' hfl' h0' _ _ E' e2 (by rw [hs', e1]; exact e3) ⟨?_, ?_, ?_, ?_, fun k hk => h.flo k (pend' k hk), ?_, ?_, ?_, h.ext, ?_, fun k hk => h.new k (pend' k hk)⟩
  · intro k y hy hk d' hd'
    simp only [Bool.or_eq_true, beq_iff_eq] at hk ⊢
    rcases hk with hk | rfl
    · exact .inl (h.clD k y hy hk d' hd')
    · rw [hx] at hy; simp at hy; subst hy
      exact .inl (hd d' hd')
  · intro k y hy hk d' hd'
    simp only [Bool.or_eq_true, beq_iff_eq] at hk ⊢
    rcases hk with hk | rfl
    · exact .inl (h.clF k y hy hk d' hd')
    · rw [hx] at hy; simp at hy; subst hy
      exact .inl (r1 d' hd')
  · intro k q hkq hk hq hFq
    simp only [Bool.or_eq_true, beq_iff_eq] at hFq ⊢
    rcases hFq with hFq | rfl
    · exact .inl (h.pre k q hkq hk hq hFq)
    · exact .inl (hwF (by simpa [isW, hx] using hq) k hkq hk)
  · intro k hk
    simp only [Bool.or_eq_true, beq_iff_eq] at hk ⊢
    rcases hk with hk | rfl
    · exact .inl (h.sub k hk)
    · exact .inr rfl
  · rw [hs', e1]
    have hdf : DefR G H'.next E' (envP l (fun k => D k || k == i) (fun k => F k || k == i) (s.1.put x.dst v) dfrT) a'.defers := by
      have h1 : DefR G H'.next E' (((envP l D F s.1).put x.dst v) dfrT) a'.defers := hr'.defers
      rw [envP_dfr fun k hk => h.flo k (pend' k hk)]
      have : ((envP l D F s.1).put x.dst v) dfrT = (s.1.put x.dst v) dfrT := by
        rw [put_get, put_get, envP_dfr h.flo]
      rw [← this]; exact h1
    refine ⟨fun t htd => ?_, hr'.heap, hr'.cap, hr'.nt, hdf⟩
    show VR G H'.next E' (envP l (fun k => D k || k == i) (fun k => F k || k == i) (s.1.put x.dst v) t) _
    have he : VR G H'.next E' (((envP l D F s.1).put x.dst v) t) _ := hr'.env t htd
    unfold envP
    split
    · trivial
    · rename_i hp
      rw [put_get] at he ⊢
      split
      · rename_i ht; rw [if_pos ht] at he; exact he
      · rename_i ht
        rw [if_neg ht] at he
        unfold envP at he
        rw [if_neg] at he
        · exact he
        · intro hpt
          obtain ⟨k, y, p1, p2, p3⟩ := pendT_iff.1 hpt
          exact hp (pendT_iff.2 ⟨k, y, pend2 k p1, p2, p3⟩)
  · intro k hk
    have hk' := pend' k hk
    have hp := h'.pend k hk'
    rw [hs''] at hp
    rw [hs', e1]
    refine hp.move e3 e2 (fun y d' hy hd' => ?_) rfl rfl
    exact hu _ (x2 _ (r2 k y d' hk' hy hd').2)
  · intro p q hp hq hne
    exact h.inj p q (pend' p hp) (pend' q hq) hne
  · intro g ob hg
    rcases h.only g ob hg with k | ⟨k, p1, p2⟩
    · exact .inl k
    · exact .inr ⟨k, pend2 k p1, p2⟩
end early
theorem any_sound {ro : Option Nat} {CO : Ora → CallF} (hC : CallOk P G B w0 CO) {nt : Nat} {ops : Array Oper} {l : List AOper} (hops : OpsR P G nt ops l) (hnd : NoD ro ops) (hck : regOk l = true) (hed : edgesOk ops l = true) {s0 : AState} {ω0 : Ora}
    (fam : ∀ ω', Agree ω0 ω' s0.2.next → ∃ st val, Ran (CO ω') l st val ∧ FloatsOk l st val ∧ st 0 = s0)
    {Q : Exit → Act → World → Prop} {E0 : Nat → Ent} (hQ : ∀ ω' st val, Agree ω0 ω' s0.2.next → Ran (CO ω') l st val → FloatsOk l st val → st 0 = s0 → ∀ a' w' E', Ext s0.2.next E0 E' → s0.2.next ≤ (st l.length).2.next → StR G B w0 nt E' (st l.length) a' w' → Q .normal a' w') :
    ∀ (fuel : Nat) (listed : Array Bool) (F : Nat → Bool) (gm : Nat → Nat) (S : Prot) (E : Nat → Ent) (a : Act) (w : World) (ω : Ora) (st : Nat → AState) (val : Nat → AV), Agree ω0 ω s0.2.next → Ran (CO ω) l st val → FloatsOk l st val → st 0 = s0 → listed.size = ops.size → left (fun j => listed.getD j false) l.length ≤ fuel →
      Inv G B w0 nt l st val (fun j => listed.getD j false) F gm S E a w → Norm l (fun j => listed.getD j false) F →
      Ext s0.2.next E0 E → s0.2.next ≤ (stateOf l st val F).2.next → wpAnyIn (FR ro) 0 P .any ops Q fuel listed a w := by
  have chk := regOk_chk hck
  -- behind the last one
  have fin : ∀ {D F : Nat → Bool} {gm : Nat → Nat} {S : Prot} {E : Nat → Ent} {a : Act} {w : World} {ω : Ora} {st : Nat → AState} {val : Nat → AV}, Agree ω0 ω s0.2.next → Ran (CO ω) l st val → FloatsOk l st val → st 0 = s0 → (∀ j, j < l.length → D j = true) → Inv G B w0 nt l st val D F gm S E a w → Norm l D F → Ext s0.2.next E0 E → s0.2.next ≤ (stateOf l st val F).2.next → Q .normal a w := by
    intro D F gm S E a w ω st val hag hran hfl h0 hall h hnm hE hn
    have nop : ∀ j, ¬ Pend l D F j := by
      intro j hj
      obtain ⟨k, k1, k2, k3⟩ := hnm j hj
      rw [hall k (by have := hj.1; omega)] at k3; cases k3
    have hF : ∀ j, j < l.length → F j = true := by
      intro j hj
      cases hFj : F j with
      | true => rfl
      | false => exact absurd ⟨hj, hall j hj, hFj⟩ (nop j)
    have hsa := stateOf_all (st := st) hran hF
    have hS : S = B := by
      funext g
      cases hb : S g with
      | none =>
        cases hb2 : B g with
        | none => rfl
        | some o => rw [h.ext g o hb2] at hb; cases hb
      | some o =>
        rcases h.only g o hb with k | ⟨j, p1, _⟩
        · exact k.symm
        · exact absurd p1 (nop j)
    subst hS
    have hstr := h.str
    rw [hsa] at hstr hn
    have hdf : DefR G (st l.length).2.next E ((st l.length).1 dfrT) a.defers := by
      have h1 : DefR G (st l.length).2.next E (envP l D F (st l.length).1 dfrT) a.defers := hstr.defers
      rwa [show envP l D F (st l.length).1 dfrT = (st l.length).1 dfrT from envP_dfr h.flo] at h1
    refine hQ ω st val hag hran hfl h0 a w E hE hn ⟨fun t htd => ?_, hstr.heap, hstr.cap, hstr.nt, hdf⟩
    have he : VR G _ E (if pendT l D F t = true then AV.undef else (st l.length).1 t) _ := hstr.env t htd
    rw [if_neg] at he
    · exact he
    · intro hp
      obtain ⟨j, y, p1, _⟩ := pendT_iff.1 hp
      exact nop j p1
  intro fuel
  induction fuel with
  | zero =>
    intro listed F gm S E a w ω st val hag hran hfl h0 hsz hleft hinv hnm hE hn
    have hall := left_zero (D := fun j => listed.getD j false) l.length (by omega)
    unfold wpAnyIn
    refine ⟨?_, fin hag hran hfl h0 hall hinv hnm hE hn⟩
    unfold Region.ready
    rw [List.filter_eq_nil_iff]
    intro i hi
    have hil : i < l.length := by rw [hops.len]; exact List.mem_range.1 hi
    have h1 := hall i hil
    have : listed.getD i true = true := by
      rw [Array.getD_eq_getD_getElem?] at h1 ⊢
      cases hq : listed[i]? with
      | none => rw [hq] at h1; simp at h1
      | some b => rw [hq] at h1; simpa using h1
    simp [this]
  | succ fuel ih =>
    intro listed F gm S E a w ω st val hag hran hfl h0 hsz hleft hinv hnm hE hn
    have hcl := hinv.clD
    unfold wpAnyIn
    -- what is ready
    have rdy : ∀ i, i ∈ Region.ready .any ops listed ↔ i < ops.size ∧ listed.getD i false = false ∧ ∀ o, ops[i]? = some o → ∀ e ∈ o.after.toList, Region.binds .any e = true → listed.getD e.on false = true := by
      intro i
      unfold Region.ready
      rw [List.mem_filter, List.mem_range]
      constructor
      · rintro ⟨hi, hb⟩
        rw [Bool.and_eq_true] at hb
        have hlt : i < listed.size := by omega
        refine ⟨hi, by simpa [Array.getD, hlt] using hb.1, fun o ho e he hbd => ?_⟩
        have h2 := hb.2
        rw [ho] at h2
        simp only [Option.map_some, Option.getD_some] at h2
        have := (Array.all_eq_true_iff_forall_mem.1 h2) e (Array.mem_toList_iff.1 he)
        simpa [hbd] using this
      · rintro ⟨hi, hb, hc⟩
        have hlt : i < listed.size := by omega
        refine ⟨hi, ?_⟩
        rw [Bool.and_eq_true]
        refine ⟨by simpa [Array.getD, hlt] using hb, ?_⟩
        have ho : ops[i]? = some ops[i] := Array.getElem?_eq_getElem hi
        rw [ho]
        simp only [Option.map_some, Option.getD_some]
        rw [Array.all_eq_true_iff_forall_mem]
        intro e he
        have := hc _ ho e (Array.mem_toList_iff.2 he)
        cases hb : Region.binds .any e with
        | false => simp
        | true => simp [this hb]
    refine ⟨fun hnil => ?_, fun i hi => ?_⟩
    · -- none is ready: all have run
      have hall : ∀ j, j < l.length → listed.getD j false = true := by
        intro j hj
        induction j using Nat.strongRecOn with
        | _ j ihj =>
          cases hd : listed.getD j false with
          | true => rfl
          | false =>
            exfalso
            have hjo : j < ops.size := by rw [← hops.len]; exact hj
            have : j ∈ Region.ready .any ops listed := by
              rw [rdy]
              refine ⟨hjo, hd, fun o ho e he hb => ?_⟩
              have hla : l[j]? = some (l[j]'hj) := List.getElem?_eq_getElem _
              have hm := (edgesOk_dir hed ho hla).1 e he hb
              have hlt := (chk.back j _ hla e.on hm).1
              exact ihj e.on hlt (by omega)
            rw [hnil] at this
            cases this
      exact fin hag hran hfl h0 hall hinv hnm hE hn
    · obtain ⟨hio, hnl, hed'⟩ := (rdy i).1 hi
      have hil : i < l.length := by rw [hops.len]; exact hio
      have ho : ops[i]? = some ops[i] := Array.getElem?_eq_getElem hio
      have ha : l[i]? = some (l[i]'hil) := List.getElem?_eq_getElem _
      obtain ⟨d1, d2⟩ := edgesOk_dir hed ho ha
      have hdeps : ∀ d ∈ (l[i]'hil).deps, listed.getD d false = true := by
        intro d hd
        obtain ⟨e, he, hb, hor⟩ := d2 d hd
        have hon := hed' _ ho e he hb
        rcases hor with rfl | ⟨b, hb2, hdb⟩
        · exact hon
        · exact hcl e.on b hb2 hon d hdb
      have hD' : ∀ j, (listed.setIfInBounds i true).getD j false = (listed.getD j false || j == i) := by
        intro j
        by_cases e : j = i
        · subst e
          simp [Array.getD, show j < listed.size by omega]
        · have : (j == i) = false := by simpa using e
          rw [this, Bool.or_false, Array.getD_eq_getD_getElem?, Array.getD_eq_getD_getElem?, Array.getElem?_setIfInBounds_ne (Ne.symm e)]
      have hfun : (fun j => (listed.setIfInBounds i true).getD j false) = (fun j => listed.getD j false || j == i) := funext hD'
      have hsz' : (listed.setIfInBounds i true).size = ops.size := by simp [hsz]
      have hleft' : left (fun j => (listed.setIfInBounds i true).getD j false) l.length ≤ fuel := by
        rw [hfun]
        have := left_step (D := fun j => listed.getD j false) hnl l.length hil
        omega
      by_cases hearly : floOk l i = true ∧ ∃ k, k < i ∧ isW l k = true ∧ listed.getD k false = false
      · obtain ⟨hfo, k, k1, k2, k3⟩ := hearly
        refine hinv.early hran chk hops hnm ho ha hnl hdeps hfo (fun a' w' S' gm' h' => ?_)
        refine ih _ F gm' S' E a' w' ω st val hag hran hfl h0 hsz' hleft' (by rw [hfun]; exact h') ?_ hE hn
        rw [hfun]
        rintro j ⟨p1, p2, p3⟩
        simp only [Bool.or_eq_true, beq_iff_eq] at p2
        rcases p2 with p2 | rfl
        · obtain ⟨q, q1, q2, q3⟩ := hnm j ⟨p1, p2, p3⟩
          by_cases hqi : q = i
          · subst hqi
            exact ⟨k, by omega, k2, by have : (k == q) = false := by simp; omega
                                       simp [k3, this]⟩
          · exact ⟨q, q1, q2, by simp [q3, hqi]⟩
        · exact ⟨k, k1, k2, by have : (k == j) = false := by simp; omega
                               simp [k3, this]⟩
      · have hw : (l[i]'hil).opc.isW = true → ∀ k, k < i → isW l k = true → listed.getD k false = true := by
          intro hiw k hk hkw
          obtain ⟨b, hb, hbw⟩ := isW_get hkw
          rcases chk.writers k i b _ hk hb ha hbw hiw with hm | hfo
          · exact hdeps k hm
          · cases hDk : listed.getD k false with
            | true => rfl
            | false => exact absurd ⟨hfo, k, hk, hkw, hDk⟩ hearly
        refine hinv.late hC hran chk hfl hops hnd hnm ho ha hnl hdeps hw (fun ω' hag' => ?_) (fun ω' st' val' hag' hran' hfl' h0' a' w' E' e1 e2 h' => ?_)
        · obtain ⟨st', val', q1, q2, q3⟩ := fam ω' (hag.trans (hag'.le hn))
          exact ⟨st', val', q1, q2, by rw [q3, h0]⟩
        obtain ⟨F2, S2, E2, r1, r2, r3, r4⟩ := h'.norm hran' chk hfl' _ (Nat.le_refl _)
        refine ih _ F2 gm S2 E2 a' w' ω' st' val' (hag.trans (hag'.le hn)) hran' hfl' (by rw [h0', h0]) hsz' hleft' (by rw [hfun]; exact r1) (by rw [hfun]; exact r2) ?_ ?_
        · exact (hE.trans e1 hn).trans r3 (Nat.le_trans hn e2)
        · exact Nat.le_trans hn (Nat.le_trans e2 r4)
end
end Go.Am
