/- What the small machine's code and calls do, the model's do. -/
import Derived.Test.YtpdedphkjkhddaaAmCore
import Derived.Test.YtpdedphkjkhddaaAmWp
import Derived.Defers
set_option linter.unusedVariables false
set_option linter.unusedSimpArgs false
namespace Go.Am
open Go.RowKit
variable {G : Nat → Nat} {P : Program}

/-- A loop whose rounds are numbered downwards. -/
theorem wp_loop_n {Q : Exit → Act → World → Prop} {c : Code} (I : Nat → Act → World → Prop)
    (round : ∀ n a w, I n a w → c.wp P (Exit.then (fun a' w' => ∃ m, m < n ∧ I m a' w') Q) a w) {n : Nat} {a : Act} {w : World} (h : I n a w) : (Code.loop c).wp P Q a w := by
  intro b k cs
  have key : ∀ n a w, I n a w → ∃ e a' w', Q e a' w' ∧ Arrives P (lone (b.at a (.code c :: .inLoop c :: k)) cs w) b k cs e a' w' := by
    intro n
    induction n using Nat.strongRecOn with
    | _ n ih =>
      intro a w hI
      obtain ⟨e, a₁, w₁, hq, harr⟩ := round n a w hI b (.inLoop c :: k) cs
      cases e with
      | normal =>
        obtain ⟨m, hlt, hI₁⟩ := hq
        obtain ⟨e₂, a₂, w₂, hq₂, harr₂⟩ := ih m hlt a₁ w₁ hI₁
        exact ⟨e₂, a₂, w₂, hq₂, .of_steps (Steps.trans harr (.one step_inLoop)) harr₂⟩
      | exit id => exact ⟨_, a₁, w₁, hq, .pass (x := .inLoop c) rfl (fun _ _ => .inl (by simp)) harr⟩
      | goto l => exact ⟨_, a₁, w₁, hq, .pass (x := .inLoop c) rfl (fun _ _ => .inl (by simp)) harr⟩
      | ret => exact ⟨_, a₁, w₁, hq, .pass (x := .inLoop c) rfl (fun _ _ => .inl (by simp)) harr⟩
      | panic ch => exact ⟨_, a₁, w₁, hq, .pass (x := .inLoop c) rfl (fun _ _ => .inl (by simp)) harr⟩
      | outgrown => exact ⟨_, a₁, w₁, hq, .pass (x := .inLoop c) rfl (fun _ _ => .inl (by simp)) harr⟩
  obtain ⟨e, a', w', hq, harr⟩ := key n a w h
  exact ⟨e, a', w', hq, .of_steps (.one step_loop) harr⟩

def toExit : AExit → Exit
  | .normal => .normal
  | .exit id => .exit id
  | .ret => .ret

section
variable {B : Prot} {w0 : World} {C : CallF}

/-- What code leaves. -/
def Left (G : Nat → Nat) (B : Prot) (w0 : World) (nt : Nat) (E : Nat → Ent) (s : AState) (x : AExit) (s' : AState) : Exit → Act → World → Prop :=
  fun e a' w' => e = toExit x ∧ ∃ E', Ext s.2.next E E' ∧ s.2.next ≤ s'.2.next ∧ StR G B w0 nt E' s' a' w'

theorem Left.from_ {nt : Nat} {E E1 : Nat → Ent} {s s1 s' : AState} {x : AExit} (h : Ext s.2.next E E1) (hn : s.2.next ≤ s1.2.next) {e : Exit} {a : Act} {w : World} (k : Left G B w0 nt E1 s1 x s' e a w) : Left G B w0 nt E s x s' e a w := by
  obtain ⟨k1, E', k2, k3, k4⟩ := k
  exact ⟨k1, E', h.trans k2 hn, Nat.le_trans hn k3, k4⟩

theorem aops_bare (C : CallF) : ∀ (l : List AOper) (s : AState), aops C (l.map AOper.bare) s = aops C l s
  | [], s => rfl
  | o :: l, s => by
    simp only [List.map_cons, aops]
    have : aop C o.bare s = aop C o s := rfl
    rw [this]
    cases aop C o s with
    | none => rfl
    | some s' => exact aops_bare C l s'

theorem atrace_bare (C : CallF) : ∀ (l : List AOper) (s : AState), atrace C (l.map AOper.bare) s = atrace C l s
  | [], s => rfl
  | o :: l, s => by
    simp only [List.map_cons, atrace]
    have : aop C o.bare s = aop C o s := rfl
    rw [this]
    cases aop C o s with
    | none => rfl
    | some s' => simp only [atrace_bare C l s']

theorem aregion_bare (C : CallF) (l : List AOper) (fl : List (Nat × Nat)) (s : AState) : aregion C (l.map AOper.bare) fl s = aregion C l fl s := by
  unfold aregion
  have hf : ∀ tr, floatOk (l.map AOper.bare) tr = floatOk l tr := by
    intro tr
    funext f
    unfold floatOk
    rw [List.getElem?_map]
    cases l[f.1]? <;> cases tr[f.1]? <;> cases tr[f.2]? <;> cases tr[f.2 + 1]? <;> rfl
  cases fl with
  | nil => exact aops_bare C l s
  | cons f fl => simp only [atrace_bare, hf]

theorem failC_none (C : CallF) (n : Nat) (s : AState) : acode C n failC s = none := by
  cases n with
  | zero => rfl
  | succ n => simp [failC, acode, aregion, aops, aop, step1, wanted, osem, psem]

theorem region_sound (hC : CallOk P G B w0 C) (hm : P.follows .mixedOrders = true) {nt id : Nat} {ops : Array Oper} {draw : Bool} {ac : ACode} (hc : compileCode P G nt (.region id ops draw) = some ac) {n : Nat} {E : Nat → Ent} {s s' : AState} {x : AExit} {a : Act} {w : World}
    (hr : StR G B w0 nt E s a w) (hs : acode C (n + 1) ac s = some (x, s')) : (Code.region id ops draw).wp P (Left G B w0 nt E s x s') a w := by
  unfold compileCode at hc
  cases hl : compileOps P G nt ops with
  | none => simp [hl] at hc; rw [← hc, failC_none] at hs; cases hs
  | some l =>
    simp only [hl] at hc
    have hops := compileOps_R hl
    have fin : ∀ (sx : AState), sx = s' → x = .normal → ∀ a' w' E', Ext s.2.next E E' → s.2.next ≤ sx.2.next → StR G B w0 nt E' sx a' w' → Left G B w0 nt E s x s' .normal a' w' := by
      intro sx e1 e2 a' w' E' q1 q2 q3
      subst e1; subst e2
      exact ⟨rfl, E', q1, q2, q3⟩
    have text : aops C l s = some s' → x = .normal → wpOps P ops (Left G B w0 nt E s x s') (List.range ops.size) a w := by
      intro h1 h2
      have := text_sound hC hops l 0 E s s' a w (by simp) hr h1 (Q := Left G B w0 nt E s x s') (fin s' rfl h2)
      rwa [hops.len, ← List.range_eq_range'] at this
    cases draw with
    | false =>
      simp only [Bool.false_eq_true, if_false, Option.some.injEq] at hc
      subst hc
      simp only [acode, aregion_bare] at hs
      simp only [aregion] at hs
      cases h1 : aops C l s with
      | none => simp [h1] at hs
      | some s1 =>
        simp [h1] at hs
        obtain ⟨rfl, rfl⟩ := hs
        exact wp_region (text h1 rfl)
    | true =>
      simp only [if_true] at hc
      split at hc
      · rename_i hok
        rw [Bool.and_eq_true] at hok
        simp only [Option.some.injEq] at hc
        subst hc
        -- the trace
        have tr : ∃ s1, s1 = s' ∧ x = .normal ∧ ∃ tr, atrace C l s = some tr ∧ tr.getLast? = some s1 ∧ (floatsOf l).all (floatOk l tr) = true := by
          simp only [acode, aregion_bare] at hs
          simp only [aregion] at hs
          cases hf : floatsOf l with
          | nil =>
            rw [hf] at hs
            simp only at hs
            cases h1 : aops C l s with
            | none => simp [h1] at hs
            | some s1 =>
              simp [h1] at hs
              obtain ⟨rfl, rfl⟩ := hs
              refine ⟨s1, rfl, rfl, ?_⟩
              have tr_of : ∀ (l : List AOper) (s s1 : AState), aops C l s = some s1 → ∃ tr, atrace C l s = some tr ∧ tr.getLast? = some s1 := by
                intro l
                induction l with
                | nil => intro s s1 h; simp [aops] at h; subst h; exact ⟨[s], rfl, rfl⟩
                | cons o l ih =>
                  intro s s1 h
                  unfold aops at h
                  cases h2 : aop C o s with
                  | none => simp [h2] at h
                  | some s2 =>
                    simp only [h2] at h
                    obtain ⟨tr, q1, q2⟩ := ih s2 s1 h
                    refine ⟨s :: tr, by unfold atrace; rw [h2]; simp only [q1], ?_⟩
                    cases tr with
                    | nil => simp at q2
                    | cons t tr => rw [List.getLast?_cons_cons]; exact q2
              obtain ⟨tr, q1, q2⟩ := tr_of l s s1 h1
              exact ⟨tr, q1, q2, by simp⟩
          | cons f fs =>
            rw [hf] at hs
            simp only at hs
            cases h1 : atrace C l s with
            | none => simp [h1] at hs
            | some tr =>
              simp only [h1] at hs
              by_cases hall : (f :: fs).all (floatOk l tr) = true
              · rw [if_pos hall] at hs
                cases h2 : tr.getLast? with
                | none => simp [h2] at hs
                | some s1 =>
                  simp [h2] at hs
                  obtain ⟨rfl, rfl⟩ := hs
                  exact ⟨s1, rfl, rfl, tr, rfl, h2, hall⟩
              · rw [if_neg hall] at hs
                simp at hs
        obtain ⟨s1, hs1, hx, htr⟩ := tr
        obtain ⟨st, val, hran, e0, e1, hfl⟩ := ran_of htr
        refine wp_region_any hm ?_
        have hD0 : ∀ j, (Array.replicate ops.size false).getD j false = false := by
          intro j
          rw [Array.getD_eq_getD_getElem?]
          by_cases hj : j < ops.size
          · simp [hj]
          · simp [Array.getElem?_eq_none, hj]
        have hfun : (fun j => (Array.replicate ops.size false).getD j false) = fun _ => false := funext hD0
        have hsn : stateOf l st val (fun j => (Array.replicate ops.size false).getD j false) = s := by rw [hfun, stateOf_none, e0]
        have hleft : ∀ n, left (fun _ => false) n = n := by
          intro n
          induction n with
          | zero => rfl
          | succ n ih => unfold left; rw [ih]; simp
        have hrd : StR G B w0 nt E s a { w with drawn := w.drawn + 1 } := ⟨hr.env, hr.heap.drew, hr.cap, hr.nt, hr.defers⟩
        have hsn2 : stateOf l st val (fun _ => false) = s := by rw [stateOf_none, e0]
        have nop : ∀ {D : Nat → Bool}, D = (fun _ => false) → ∀ j, ¬ Pend l D (fun _ => false) j := by
          rintro D rfl j ⟨_, h, _⟩; cases h
        refine any_sound (B := B) (w0 := w0) hC hops hok.1 hok.2 hran hfl (E0 := E) (Q := Left G B w0 nt E s x s') ?_ ops.size _ (fun _ => false) (fun _ => 0) B E a _ (by simp) ?_ ?_ ?_ (Ext.refl _ _) ?_
        · intro a' w' E' q1 q2 q3
          rw [e0] at q1 q2
          rw [e1] at q2 q3
          exact fin s1 hs1 hx a' w' E' q1 q2 q3
        · rw [hfun, hleft, hops.len]; exact Nat.le_refl _
        · rw [hfun]
          refine ⟨fun i y _ hf => (by cases hf), fun i y _ hf => (by cases hf), fun i j _ _ _ hf => (by cases hf), fun j hf => (by cases hf), fun j hj => absurd hj (nop rfl j), ?_, fun j hj => absurd hj (nop rfl j), fun i j hi => absurd hi (nop rfl i), Sub.refl B, fun g o hg => .inl hg, fun j hj => absurd hj (nop rfl j)⟩
          rw [hsn2]
          have hdf : DefR G s.2.next E (envP l (fun _ => false) (fun _ => false) s.1 dfrT) a.defers := by
            rw [envP_dfr fun j hj => absurd hj (nop rfl j)]; exact hrd.defers
          refine ⟨fun t htd => ?_, hrd.heap, hrd.cap, hrd.nt, hdf⟩
          show VR G s.2.next E (envP l (fun _ => false) (fun _ => false) s.1 t) _
          unfold envP
          rw [if_neg]
          · exact hrd.env t htd
          · intro hp
            obtain ⟨j, y, p1, _⟩ := pendT_iff.1 hp
            exact nop rfl j p1
        · rw [hfun]; exact fun j hj => absurd hj (nop rfl j)
        · rw [hsn2, e0]; exact Nat.le_refl _
      · simp only [Option.some.injEq] at hc; rw [← hc, failC_none] at hs; cases hs

theorem acode_sound (hC : CallOk P G B w0 C) (hm : P.follows .mixedOrders = true) {nt : Nat} : ∀ (n : Nat) (c : Code) (ac : ACode) (E : Nat → Ent) (s s' : AState) (x : AExit) (a : Act) (w : World), compileCode P G nt c = some ac →
    StR G B w0 nt E s a w → acode C n ac s = some (x, s') → c.wp P (Left G B w0 nt E s x s') a w := by
  intro n
  induction n using Nat.strongRecOn with
  | _ n ih =>
    intro c ac E s s' x a w hc hr hs
    cases n with
    | zero => simp [acode] at hs
    | succ n =>
      cases c with
      | skip =>
        simp [compileCode] at hc; subst hc
        simp [acode] at hs
        obtain ⟨rfl, rfl⟩ := hs
        exact wp_skip ⟨rfl, E, Ext.refl _ _, Nat.le_refl _, hr⟩
      | region id ops draw => exact region_sound hC hm hc hr hs
      | seq y z =>
        unfold compileCode at hc
        cases h1 : compileCode P G nt y with
        | none => simp [h1] at hc
        | some ay =>
          cases h2 : compileCode P G nt z with
          | none => simp [h1, h2] at hc
          | some az =>
            simp [h1, h2] at hc
            subst hc
            unfold acode at hs
            cases h3 : acode C n ay s with
            | none => simp [h3] at hs
            | some p =>
              obtain ⟨x1, s1⟩ := p
              have i1 := ih n (by omega) y ay E s s1 x1 a w h1 hr h3
              refine wp_seq (wp_mono i1 ?_)
              rintro e a1 w1 ⟨rfl, E1, q1, q2, q3⟩
              cases x1 with
              | normal =>
                simp only [h3] at hs
                exact wp_mono (ih n (by omega) z az E1 s1 s' x a1 w1 h2 q3 hs) (fun e a2 w2 k => Left.from_ q1 q2 k)
              | exit id =>
                simp [h3] at hs
                obtain ⟨rfl, rfl⟩ := hs
                exact ⟨rfl, E1, q1, q2, q3⟩
              | ret =>
                simp [h3] at hs
                obtain ⟨rfl, rfl⟩ := hs
                exact ⟨rfl, E1, q1, q2, q3⟩
      | cond cc y z =>
        unfold compileCode at hc
        cases h0 : opd G cc with
        | none => simp [h0] at hc
        | some oc =>
          cases h1 : compileCode P G nt y with
          | none => simp [h0, h1] at hc
          | some ay =>
            cases h2 : compileCode P G nt z with
            | none => simp [h0, h1, h2] at hc
            | some az =>
              simp [h0, h1, h2] at hc
              subst hc
              have hv := opd_VR hr.env h0
              unfold acode at hs
              cases he : s.1.ev oc with
              | bool b =>
                rw [he] at hv hs
                cases b with
                | true => exact wp_cond_true hv (ih n (by omega) y ay E s s' x a w h1 hr (by simpa using hs))
                | false => exact wp_cond_false hv (ih n (by omega) z az E s s' x a w h2 hr (by simpa using hs))
              | _ => rw [he] at hs; simp at hs
      | block id y =>
        unfold compileCode at hc
        cases h1 : compileCode P G nt y with
        | none => simp [h1] at hc
        | some ay =>
          simp [h1] at hc
          subst hc
          unfold acode at hs
          cases h3 : acode C n ay s with
          | none => simp [h3] at hs
          | some p =>
            obtain ⟨x1, s1⟩ := p
            have i1 := ih n (by omega) y ay E s s1 x1 a w h1 hr h3
            refine wp_block (wp_mono i1 ?_)
            rintro e a1 w1 ⟨rfl, E1, q1, q2, q3⟩
            cases x1 with
            | normal =>
              simp [h3] at hs
              obtain ⟨rfl, rfl⟩ := hs
              exact ⟨rfl, E1, q1, q2, q3⟩
            | exit i =>
              simp only [h3] at hs
              show (if i = id then Left G B w0 nt E s x s' Exit.normal a1 w1 else Left G B w0 nt E s x s' (Exit.exit i) a1 w1)
              by_cases hi : i = id
              · rw [if_pos hi] at hs ⊢
                simp at hs
                obtain ⟨rfl, rfl⟩ := hs
                exact ⟨rfl, E1, q1, q2, q3⟩
              · rw [if_neg hi] at hs ⊢
                simp at hs
                obtain ⟨rfl, rfl⟩ := hs
                exact ⟨rfl, E1, q1, q2, q3⟩
            | ret =>
              simp [h3] at hs
              obtain ⟨rfl, rfl⟩ := hs
              exact ⟨rfl, E1, q1, q2, q3⟩
      | loop y =>
        unfold compileCode at hc
        cases h1 : compileCode P G nt y with
        | none => simp [h1] at hc
        | some ay =>
          simp [h1] at hc
          subst hc
          refine wp_loop_n (fun m a' w' => m ≤ n + 1 ∧ ∃ E1 s1, acode C m (.loop ay) s1 = some (x, s') ∧ Ext s.2.next E E1 ∧ s.2.next ≤ s1.2.next ∧ StR G B w0 nt E1 s1 a' w') ?_ (n := n + 1) ⟨Nat.le_refl _, E, s, hs, Ext.refl _ _, Nat.le_refl _, hr⟩
          rintro m a1 w1 ⟨hmn, E1, s1, hm1, q1, q2, q3⟩
          cases m with
          | zero => simp [acode] at hm1
          | succ m =>
            unfold acode at hm1
            cases h3 : acode C m ay s1 with
            | none => simp [h3] at hm1
            | some p =>
              obtain ⟨x2, s2⟩ := p
              have i1 := ih m (by omega) y ay E1 s1 s2 x2 a1 w1 h1 q3 h3
              refine wp_mono i1 ?_
              rintro e a2 w2 ⟨rfl, E2, r1, r2, r3⟩
              cases x2 with
              | normal =>
                simp only [h3] at hm1
                exact ⟨m, by omega, by omega, E2, s2, hm1, q1.trans r1 q2, Nat.le_trans q2 r2, r3⟩
              | exit i =>
                simp [h3] at hm1
                obtain ⟨rfl, rfl⟩ := hm1
                exact ⟨rfl, E2, q1.trans r1 q2, Nat.le_trans q2 r2, r3⟩
              | ret =>
                simp [h3] at hm1
                obtain ⟨rfl, rfl⟩ := hm1
                exact ⟨rfl, E2, q1.trans r1 q2, Nat.le_trans q2 r2, r3⟩
      | exit id =>
        simp [compileCode] at hc; subst hc
        simp [acode] at hs
        obtain ⟨rfl, rfl⟩ := hs
        exact wp_exit ⟨rfl, E, Ext.refl _ _, Nat.le_refl _, hr⟩
      | ret =>
        simp [compileCode] at hc; subst hc
        simp [acode] at hs
        obtain ⟨rfl, rfl⟩ := hs
        exact wp_ret ⟨rfl, E, Ext.refl _ _, Nat.le_refl _, hr⟩
      | _ => simp [compileCode] at hc; rw [← hc, failC_none] at hs; cases hs

/-! ### Calls -/
/-- How a table of functions, and of those that are told, stands to a program. -/
structure Link (P : Program) (G : Nat → Nat) (B : Prot) (w0 : World) (F : Nat → Option AFunc) (prims : Nat → Option (List AV → AHeap → Option (AV × AHeap))) : Prop where
  mixed : P.follows .mixedOrders = true
  fn : ∀ f ir, F (G f) = some ir → ∃ fn, P.funcs[f]? = some fn ∧ compileFn P G fn = some ir
  prim : ∀ f p, prims (G f) = some p → ∀ args H v H', p args H = some (v, H') → ∀ S, Sub B S → ∀ E w us, HRel G S w0 E H w → VRs G H.next E args us → Back P G S w0 E H w (callFunc f us.toArray) v H'

def resOf (tmps : Array Value) : ResultVar → Sem Value
  | .tmp t => pure (tmps.getD t Go.undef)
  | .cell a t => do loadVar t (← asAddr (tmps.getD a Go.undef))

theorem res_sound {E : Nat → Ent} {H : AHeap} {w : World} {env : Env} {a : Act} (h : HRel G B w0 E H w) (he : EnvR G H.next E env a) : ∀ (rs : List ResultVar) (ars : List ARes) (vs : List AV), mapO (compileRes P) rs = some ars → ares env H ars = some vs →
    ∃ us, (rs.mapM (resOf a.tmps) : Sem (List Value)).run P w = .ok us w ∧ VRs G H.next E vs us
  | [], ars, vs, hc, hs => by
    simp [mapO] at hc; subst hc
    simp [ares] at hs; subst hs
    exact ⟨[], by simp, rfl⟩
  | r :: rs, ars, vs, hc, hs => by
    unfold mapO at hc
    cases h1 : compileRes P r with
    | none => simp [h1] at hc
    | some ar =>
      cases h2 : mapO (compileRes P) rs with
      | none => simp [h1, h2] at hc
      | some ars' =>
        simp [h1, h2] at hc
        subst hc
        cases r with
        | tmp t =>
          simp only [compileRes] at h1
          split at h1
          case isFalse => cases h1
          rename_i htd
          simp only [Option.some.injEq] at h1
          subst h1
          unfold ares at hs
          cases h3 : ares env H ars' with
          | none => simp [h3] at hs
          | some vs' =>
            simp [h3] at hs
            subst hs
            obtain ⟨us, q1, q2⟩ := res_sound h he rs ars' vs' h2 h3
            refine ⟨a.tmps.getD t Go.undef :: us, ?_, ⟨_, _, rfl, he t (Nat.ne_of_lt htd), q2⟩⟩
            rw [List.mapM_cons, Sem.run_bind]
            simp only [resOf, Sem.run_pure, Result.andThen_ok, Sem.run_bind, q1]
        | cell ad t =>
          unfold compileRes at h1
          cases hz : sizeT P t with
          | none => simp [hz] at h1
          | some m =>
            cases hg : aggT P t with
            | none => simp [hz, hg] at h1
            | some g =>
              simp only [hz, hg] at h1
              split at h1
              · rename_i hgm
                obtain ⟨hgm, htd⟩ := hgm
                simp only [Option.some.injEq] at h1
                subst h1
                unfold ares at hs
                have hv := he ad (Nat.ne_of_lt htd)
                cases e1 : env ad <;> rw [e1] at hs hv <;> try (cases hs; done)
                rename_i p
                cases p with
                | none => simp at hs
                | some p =>
                  obtain ⟨b, off⟩ := p
                  simp only at hs
                  cases hl : H.ld b off m with
                  | none => simp [hl] at hs
                  | some cs =>
                    cases h3 : ares env H ars' with
                    | none => simp [hl, h3] at hs
                    | some vs' =>
                      simp only [hl, h3] at hs
                      obtain ⟨us, q1, q2⟩ := res_sound h he rs ars' vs' h2 h3
                      obtain ⟨_, ws, r2, r3, r4, r5⟩ := h.loadCells (P := P) hl
                      cases g with
                      | true =>
                        simp at hs
                        subst hs
                        refine ⟨.agg ws.toArray :: us, ?_, ⟨_, _, rfl, ⟨ws.toArray, rfl, by simpa using r2⟩, q2⟩⟩
                        have hv2 : a.tmps.getD ad Go.undef = .pointer (some ⟨(E b).g, (E b).o + off, none⟩) := hv.2
                        rw [List.mapM_cons, Sem.run_bind]
                        simp only [resOf, hv2, asAddr, loadVar, Sem.run_pure, Result.andThen_ok, Sem.run_bind, run_isAgg hg, run_sizeOf hz, r3, q1, if_true]
                      | false =>
                        simp only [Bool.false_eq_true, if_false] at hs
                        cases hc0 : cs[0]? with
                        | none => simp [hc0] at hs
                        | some z =>
                          simp [hc0] at hs
                          subst hs
                          obtain ⟨u, q6, q7⟩ := r2.get _ _ hc0
                          have q8 := r5 0 u q6
                          simp only [Nat.add_zero] at q8
                          have hv2 : a.tmps.getD ad Go.undef = .pointer (some ⟨(E b).g, (E b).o + off, none⟩) := hv.2
                          refine ⟨u :: us, ?_, ⟨_, _, rfl, q7, q2⟩⟩
                          rw [List.mapM_cons, Sem.run_bind]
                          simp only [resOf, hv2, asAddr, loadVar, Sem.run_pure, Result.andThen_ok, Sem.run_bind, run_isAgg hg, run_load, q8, q1, Bool.false_eq_true, if_false]
              · cases h1

/-- A function's body at its entry. -/
theorem entry_sound {F : Nat → Option AFunc} {prims : Nat → Option (List AV → AHeap → Option (AV × AHeap))} (L : Link P G B w0 F prims) {f : Nat} {ir : AFunc} (hF : F (G f) = some ir) :
    ∃ fn c, P.funcs[f]? = some fn ∧ fn.body = some c ∧ fn.name ≠ "runtime.NumGoroutine" ∧ mapO (compileRes P) fn.results.toList = some ir.results ∧
      ∀ {C : CallF} {S : Prot}, CallOk P G S w0 C → ∀ {n : Nat} {args : List AV} {H : AHeap} {x : AExit} {s : AState} {E : Nat → Ent} {w : World} {us : List Value}, HRel G S w0 E H w → VRs G H.next E args us → acode C n ir.body (env0 args, H) = some (x, s) →
        c.wp P (Left G S w0 fn.ntmps E (env0 args, H) x s) { tmps := us.toArray ++ Array.replicate (fn.ntmps - us.toArray.size) Go.undef, defers := [] } w := by
  obtain ⟨fn, hfn, hcf⟩ := L.fn f ir hF
  unfold compileFn at hcf
  cases hb : fn.body with
  | none => simp [hb] at hcf
  | some c =>
    simp only [hb] at hcf
    cases h1 : compileCode P G fn.ntmps c with
    | none => simp [h1] at hcf
    | some ac =>
      cases h2 : mapO (compileRes P) fn.results.toList with
      | none => simp [h1, h2] at hcf
      | some ars =>
        simp only [h1, h2] at hcf
        split at hcf
        · cases hcf
        · rename_i hname
          simp only [not_or] at hname
          simp only [Option.some.injEq] at hcf
          subst hcf
          refine ⟨fn, c, hfn, hb, hname.1, h2, ?_⟩
          intro C S hC n args H x s E w us hr hv h3
          refine acode_sound hC L.mixed n c ac E _ s x _ w h1 ⟨fun i hi => ?_, hr, Nat.not_lt.1 hname.2, ?_, ?_⟩ h3
          · show VR G H.next E (env0 args i) _
            unfold env0
            rw [if_neg hi, List.getD_eq_getElem?_getD]
            cases hi : args[i]? with
            | none => simp only [Option.getD_none]; trivial
            | some z =>
              obtain ⟨u, q1, q2⟩ := hv.get _ _ hi
              have hlt : i < us.length := (List.getElem?_eq_some_iff.1 q1).1
              simp only [Option.getD_some]
              have : (us.toArray ++ Array.replicate (fn.ntmps - us.toArray.size) Go.undef).getD i Go.undef = u := by
                rw [Array.getD_eq_getD_getElem?, Array.getElem?_append_left (by simpa using hlt)]
                simp [q1]
              rw [this]; exact q2
          · simp; omega
          · show DefR G H.next E (env0 args dfrT) []
            unfold env0
            rw [if_pos rfl]
            rfl

/-- A function's values, out of its results. -/
theorem results_sound {fn : Func} {ars : List ARes} (h2 : mapO (compileRes P) fn.results.toList = some ars) {S : Prot} {E : Nat → Ent} {H : AHeap} {w : World} {env : Env} {a : Act} (hh : HRel G S w0 E H w) (he : EnvR G H.next E env a) {vs : List AV} (h4 : ares env H ars = some vs) :
    ∃ u, (results fn a.tmps).run P w = .ok u w ∧ VR G H.next E (one vs) u := by
  obtain ⟨us', r1, r2⟩ := res_sound (P := P) hh he fn.results.toList ars vs h2 h4
  refine ⟨if h : us'.toArray.size = 1 then us'.toArray[0] else .tuple us'.toArray, ?_, ?_⟩
  · unfold results
    have e0 : (fn.results.mapM (resOf a.tmps) : Sem (Array Value)).run P w = .ok us'.toArray w := by
      rw [Array.mapM_eq_mapM_toList, Sem.run_map, r1]; rfl
    show ((fn.results.mapM (resOf a.tmps) : Sem (Array Value)) >>= fun vs => pure (if h : vs.size = 1 then vs[0] else .tuple vs)).run P w = _
    rw [Sem.run_bind, e0]
    rfl
  · have hl := r2.length
    cases vs with
    | nil =>
      obtain rfl : us' = [] := r2
      exact ⟨#[], rfl, rfl⟩
    | cons v1 vs =>
      cases vs with
      | nil =>
        obtain ⟨u1, us1, rfl, p1, p2⟩ := r2
        obtain rfl : us1 = [] := p2
        exact p1
      | cons v2 vs =>
        have : ¬ us'.toArray.size = 1 := by simp at hl ⊢; omega
        rw [dif_neg this]
        exact ⟨us'.toArray, rfl, by simpa using r2⟩

/-- A deferred call, in the model. -/
theorem dcall_sound {F : Nat → Option AFunc} {prims : Nat → Option (List AV → AHeap → Option (AV × AHeap))} (L : Link P G B w0 F prims) {C : CallF} {S : Prot} (hC : CallOk P G S w0 C) {n f : Nat} {args : List AV} {H H' : AHeap} (h : dcall F C n (G f) args H = some H') {E : Nat → Ent} {w : World} {us : List Value} (hr : HRel G S w0 E H w) (hv : VRs G H.next E args us) :
    (callFunc f us.toArray).run P w = .ok (.enter f us.toArray) w ∧ ∀ u, CallsD P f us.toArray u w fun e u' w' => u' = u ∧ ∃ v E', e = .returned v ∧ H.next ≤ H'.next ∧ Ext H.next E E' ∧ HRel G S w0 E' H' w' := by
  unfold dcall at h
  cases hF : F (G f) with
  | none => simp [hF] at h
  | some ir =>
    simp only [hF] at h
    obtain ⟨fn, c, hfn, hb, hname, h2, hbody⟩ := entry_sound L hF
    have body : ∃ x s vs, acode C n ir.body (env0 args, H) = some (x, s) ∧ (x = .normal ∨ x = .ret) ∧ s.1 dfrT = .undef ∧ ares s.1 s.2 ir.results = some vs ∧ H' = s.2 := by
      cases h3 : acode C n ir.body (fun i => if i = dfrT then .undef else args.getD i .undef, H) with
      | none => simp only [h3] at h; cases h
      | some p =>
        obtain ⟨x, s⟩ := p
        simp only [h3] at h
        have key : (match s.1 dfrT with | .undef => (match ares s.1 s.2 ir.results with | some _ => some s.2 | none => none) | _ => none) = some H' → s.1 dfrT = .undef ∧ ∃ vs, ares s.1 s.2 ir.results = some vs ∧ H' = s.2 := by
          intro hk
          cases hd : s.1 dfrT <;> rw [hd] at hk <;> simp only [reduceCtorEq] at hk
          refine ⟨rfl, ?_⟩
          cases h4 : ares s.1 s.2 ir.results with
          | none => simp [h4] at hk
          | some vs => simp [h4] at hk; exact ⟨vs, rfl, hk.symm⟩
        cases x with
        | normal => obtain ⟨k1, vs, k2, k3⟩ := key h; exact ⟨_, s, vs, h3, .inl rfl, k1, k2, k3⟩
        | ret => obtain ⟨k1, vs, k2, k3⟩ := key h; exact ⟨_, s, vs, h3, .inr rfl, k1, k2, k3⟩
        | exit id => simp at h
    obtain ⟨x, s, vs, h3, hx, hd, h4, rfl⟩ := body
    refine ⟨by simp [callFunc, hfn, hb, hname], fun u => ?_⟩
    refine callsD_of_wp hfn hb (R := fun e w' => ∃ v E', e = .returned v ∧ H.next ≤ s.2.next ∧ Ext H.next E E' ∧ HRel G S w0 E' s.2 w') ?_
    refine wp_mono (hbody hC hr hv h3) ?_
    rintro e a1 w1 ⟨rfl, E1, q1, q2, q3⟩
    have hds : a1.defers = [] := by
      have := q3.defers
      rw [hd] at this
      exact this
    obtain ⟨u', r1, r2⟩ := results_sound h2 q3.heap q3.env h4
    have fin : a1.defers = [] ∧ ∃ v', (results fn a1.tmps).run P w1 = .ok v' w1 ∧ (fun (e : Ending) (w' : World) => ∃ v E', e = .returned v ∧ H.next ≤ s.2.next ∧ Ext H.next E E' ∧ HRel G S w0 E' s.2 w') (.returned v') w1 :=
      ⟨hds, u', r1, u', E1, rfl, q2, q1, q3.heap⟩
    rcases hx with rfl | rfl
    · exact fin
    · exact fin

/-- The deferred calls, in the model. -/
theorem rundL_sound {F : Nat → Option AFunc} {prims : Nat → Option (List AV → AHeap → Option (AV × AHeap))} (L : Link P G B w0 F prims) {C : CallF} {S : Prot} (hC : CallOk P G S w0 C) {n : Nat} {fn : Func} {tmps : Array Value} {R : Ending → World → Prop} : ∀ {ds : List AV} {H H' : AHeap} {E : Nat → Ent} {w : World} {dfs : List Deferred}, rundL (dcall F C n) ds H = some H' → HRel G S w0 E H w → VRs G H.next E ds (dfs.map dval) →
    (∀ E' w', H.next ≤ H'.next → Ext H.next E E' → HRel G S w0 E' H' w' → ∃ v, (results fn tmps).run P w' = .ok v w' ∧ R (.returned v) w') → Leaves P fn tmps R dfs .returning w
  | [], H, H', E, w, dfs, h, hr, hv, hK => by
    simp [rundL] at h
    subst h
    have : dfs = [] := by
      have := hv.length
      simpa using this
    subst this
    obtain ⟨v, k1, k2⟩ := hK E w (Nat.le_refl _) (Ext.refl _ _) hr
    exact ⟨v, k1, k2⟩
  | a :: ds, H, H', E, w, dfs, h, hr, hv, hK => by
    cases a <;> simp only [rundL, reduceCtorEq] at h
    rename_i fg as caps
    cases h1 : dcall F C n fg (as ++ caps) H with
    | none => simp [h1] at h
    | some H1 =>
      simp only [h1] at h
      obtain ⟨u, r, e1, v1, v2⟩ := hv
      cases dfs with
      | nil => simp at e1
      | cons d dfs =>
        simp only [List.map_cons, List.cons.injEq] at e1
        obtain ⟨rfl, rfl⟩ := e1
        obtain ⟨f', us, ws, g1, g2, g3, g4⟩ := v1
        subst g1
        obtain ⟨tgt, dargs⟩ := d
        have ht : tgt = .fn (.func f') ws ∧ dargs = us := by
          unfold dval at g2
          cases tgt <;> simp at g2
          exact ⟨by rw [g2.1, g2.2.2], g2.2.1⟩
        obtain ⟨rfl, rfl⟩ := ht
        obtain ⟨k1, k2⟩ := dcall_sound L hC h1 hr (g3.append g4)
        have hargs : (dargs.toList ++ ws.toList).toArray = dargs ++ ws := by apply Array.ext'; simp
        rw [hargs] at k1 k2
        refine leaves_cons (by simp) (f := f') (args := dargs ++ ws) (by simpa [invoke] using k1) ?_
        refine CallsD.mono (k2 .returning) ?_
        rintro e u' w' ⟨rfl, v, E1, rfl, q2, q3, q4⟩
        show Leaves P fn tmps R dfs (settle .returning) w'
        refine rundL_sound L hC h q4 (VRs.mono q2 q3 v2) (fun E' w2 p1 p2 p3 => hK E' w2 (Nat.le_trans q2 p1) (q3.trans p2 q2) p3)

theorem acall_sound {F : Nat → Option AFunc} {prims : Nat → Option (List AV → AHeap → Option (AV × AHeap))} (L : Link P G B w0 F prims) : ∀ n, CallOk P G B w0 (acall F prims n)
  | 0 => by intro f args H v H' h; simp [acall] at h
  | n + 1 => by
    intro f args H v H' h S hS E w us hr hv
    cases ht : told (prims (G f)) args H with
    | some r =>
      unfold acall at h
      rw [ht] at h
      simp only [Option.some.injEq] at h
      subst h
      unfold told at ht
      cases hp : prims (G f) with
      | none => rw [hp] at ht; cases ht
      | some p =>
        rw [hp] at ht
        exact L.prim f p hp args H v H' ht S hS E w us hr hv
    | none =>
      cases hF : F (G f) with
      | none => unfold acall at h; rw [ht] at h; simp [hF] at h
      | some ir =>
        rw [acall_eq ht hF] at h
        obtain ⟨fn, c, hfn, hb, hname, h2, hbody⟩ := entry_sound L hF
        have hC := (acall_sound L n).sub hS
        right
        refine ⟨f, us.toArray, by simp [callFunc, hfn, hb, hname], ?_⟩
        have body : ∃ x s, acode (acall F prims n) (n + 1) ir.body (env0 args, H) = some (x, s) ∧ (x = .normal ∨ x = .ret) ∧ ∃ vs, rund (dcall F (acall F prims n) n) (s.1 dfrT) s.2 = some H' ∧ ares s.1 H' ir.results = some vs ∧ v = one vs := by
          cases h3 : acode (acall F prims n) (n + 1) ir.body (env0 args, H) with
          | none => simp only [h3] at h; cases h
          | some p =>
            obtain ⟨x, s⟩ := p
            simp only [h3] at h
            have key : behind (dcall F (acall F prims n) n) ir.results s = some (v, H') → ∃ vs, rund (dcall F (acall F prims n) n) (s.1 dfrT) s.2 = some H' ∧ ares s.1 H' ir.results = some vs ∧ v = one vs := by
              intro hk
              unfold behind at hk
              cases h5 : rund (dcall F (acall F prims n) n) (s.1 dfrT) s.2 with
              | none => simp [h5] at hk
              | some H2 =>
                simp only [h5] at hk
                cases h4 : ares s.1 H2 ir.results with
                | none => simp [h4] at hk
                | some vs => simp [h4] at hk; obtain ⟨rfl, rfl⟩ := hk; exact ⟨vs, rfl, h4, rfl⟩
            cases x with
            | normal => exact ⟨_, s, rfl, .inl rfl, key h⟩
            | ret => exact ⟨_, s, rfl, .inr rfl, key h⟩
            | exit id => simp at h
        obtain ⟨x, s, h3, hx, vs, h5, h4, rfl⟩ := body
        refine calls_of_wp_defers hfn hb ?_
        refine wp_mono (hbody hC hr hv h3) ?_
        rintro e a1 w1 ⟨rfl, E1, q1, q2, q3⟩
        have q2' : H.next ≤ s.2.next := q2
        have fin : Leaves P fn a1.tmps (fun e w' => ∃ u E', e = .returned u ∧ VR G H'.next E' (one vs) u ∧ H.next ≤ H'.next ∧ Ext H.next E E' ∧ HRel G S w0 E' H' w') a1.defers .returning w1 := by
          have hd := q3.defers
          have back : ∀ E' w', s.2.next ≤ H'.next → Ext s.2.next E1 E' → HRel G S w0 E' H' w' → ∃ v, (results fn a1.tmps).run P w' = .ok v w' ∧ ∃ u E'', Ending.returned v = .returned u ∧ VR G H'.next E'' (one vs) u ∧ H.next ≤ H'.next ∧ Ext H.next E E'' ∧ HRel G S w0 E'' H' w' := by
            intro E' w' p1 p2 p3
            have henv : EnvR G H'.next E' s.1 a1 := q3.env.mono p1 p2
            obtain ⟨u, r1, r2⟩ := results_sound h2 p3 henv h4
            exact ⟨u, r1, u, E', rfl, r2, Nat.le_trans q2' p1, q1.trans p2 q2', p3⟩
          cases hs0 : s.1 dfrT <;> rw [hs0] at h5 hd <;> simp only [rund, reduceCtorEq] at h5
          · simp only [Option.some.injEq] at h5
            subst h5
            have : a1.defers = [] := hd
            rw [this]
            obtain ⟨u, r1, r2⟩ := back E1 w1 (Nat.le_refl _) (Ext.refl _ _) q3.heap
            exact ⟨u, r1, r2⟩
          · exact rundL_sound L hC h5 q3.heap hd back
        rcases hx with rfl | rfl
        · exact fin
        · exact fin

end
end Go.Am
