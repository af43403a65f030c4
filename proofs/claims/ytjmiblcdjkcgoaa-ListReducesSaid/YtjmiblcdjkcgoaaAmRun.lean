/- What the small machine's code and calls do, the model's do. -/
import Derived.Test.YtjmiblcdjkcgoaaAmCode
set_option linter.unusedVariables false
set_option linter.unusedSimpArgs false
namespace Go.Am
open Go.RowKit
variable {G : Nat → Nat} {P : Program}

/-- A loop whose rounds are numbered downwards. -/
theorem wp_loop_n {Q : Exit → Act → World → Prop} {c : Code} (I : Nat → Act → World → Prop)
    (round : ∀ n a w, I n a w → c.wp P (Exit.then (fun a' w' => ∃ m, m < n ∧ I m a' w') Q) a w) {n : Nat} {a : Act} {w : World} (h : I n a w) : (Code.loop c).wp P Q a w := by
  intro b k cs
  have key : ∀ n a w, I n a w → ∃ e a' w', Q e a' w' ∧ Arrives P (lone (b.at a (.code c :: .inLoop c :: k)) cs w) b k cs e a' w' := by
    intro n
    induction n using Nat.strongRecOn with
    | _ n ih =>
      intro a w hI
      obtain ⟨e, a₁, w₁, hq, harr⟩ := round n a w hI b (.inLoop c :: k) cs
      cases e with
      | normal =>
        obtain ⟨m, hlt, hI₁⟩ := hq
        obtain ⟨e₂, a₂, w₂, hq₂, harr₂⟩ := ih m hlt a₁ w₁ hI₁
        exact ⟨e₂, a₂, w₂, hq₂, .of_steps (Steps.trans harr (.one step_inLoop)) harr₂⟩
      | exit id => exact ⟨_, a₁, w₁, hq, .pass (x := .inLoop c) rfl (fun _ _ => .inl (by simp)) harr⟩
      | goto l => exact ⟨_, a₁, w₁, hq, .pass (x := .inLoop c) rfl (fun _ _ => .inl (by simp)) harr⟩
      | ret => exact ⟨_, a₁, w₁, hq, .pass (x := .inLoop c) rfl (fun _ _ => .inl (by simp)) harr⟩
      | panic ch => exact ⟨_, a₁, w₁, hq, .pass (x := .inLoop c) rfl (fun _ _ => .inl (by simp)) harr⟩
      | outgrown => exact ⟨_, a₁, w₁, hq, .pass (x := .inLoop c) rfl (fun _ _ => .inl (by simp)) harr⟩
  obtain ⟨e, a', w', hq, harr⟩ := key n a w h
  exact ⟨e, a', w', hq, .of_steps (.one step_loop) harr⟩

def toExit : AExit → Exit
  | .normal => .normal
  | .exit id => .exit id
  | .ret => .ret

section
variable {B : Nat} {w0 : World} {C : CallF}

/-- What code leaves. -/
def Left (G : Nat → Nat) (B : Nat) (w0 : World) (nt : Nat) (E : Nat → Ent) (s : AState) (x : AExit) (s' : AState) : Exit → Act → World → Prop :=
  fun e a' w' => e = toExit x ∧ ∃ E', Ext s.2.next E E' ∧ s.2.next ≤ s'.2.next ∧ StR G B w0 nt E' s' a' w'

theorem Left.from_ {nt : Nat} {E E1 : Nat → Ent} {s s1 s' : AState} {x : AExit} (h : Ext s.2.next E E1) (hn : s.2.next ≤ s1.2.next) {e : Exit} {a : Act} {w : World} (k : Left G B w0 nt E1 s1 x s' e a w) : Left G B w0 nt E s x s' e a w := by
  obtain ⟨k1, E', k2, k3, k4⟩ := k
  exact ⟨k1, E', h.trans k2 hn, Nat.le_trans hn k3, k4⟩

theorem aops_bare (C : CallF) : ∀ (l : List AOper) (s : AState), aops C (l.map AOper.bare) s = aops C l s
  | [], s => rfl
  | o :: l, s => by
    simp only [List.map_cons, aops]
    have : aop C o.bare s = aop C o s := rfl
    rw [this]
    cases aop C o s with
    | none => rfl
    | some s' => exact aops_bare C l s'

theorem atrace_bare (C : CallF) : ∀ (l : List AOper) (s : AState), atrace C (l.map AOper.bare) s = atrace C l s
  | [], s => rfl
  | o :: l, s => by
    simp only [List.map_cons, atrace]
    have : aop C o.bare s = aop C o s := rfl
    rw [this]
    cases aop C o s with
    | none => rfl
    | some s' => simp only [atrace_bare C l s']

theorem aregion_bare (C : CallF) (l : List AOper) (fl : List (Nat × Nat)) (s : AState) : aregion C (l.map AOper.bare) fl s = aregion C l fl s := by
  unfold aregion
  have hf : ∀ tr, floatOk (l.map AOper.bare) tr = floatOk l tr := by
    intro tr
    funext f
    unfold floatOk
    rw [List.getElem?_map]
    cases l[f.1]? <;> cases tr[f.1]? <;> cases tr[f.2]? <;> cases tr[f.2 + 1]? <;> rfl
  cases fl with
  | nil => exact aops_bare C l s
  | cons f fl => simp only [atrace_bare, hf]

theorem region_sound (hC : CallOk P G C) (hm : P.follows .mixedOrders = true) {nt id : Nat} {ops : Array Oper} {draw : Bool} {ac : ACode} (hc : compileCode P G nt (.region id ops draw) = some ac) {n : Nat} {E : Nat → Ent} {s s' : AState} {x : AExit} {a : Act} {w : World}
    (hr : StR G B w0 nt E s a w) (hs : acode C (n + 1) ac s = some (x, s')) : (Code.region id ops draw).wp P (Left G B w0 nt E s x s') a w := by
  unfold compileCode at hc
  cases hl : compileOps P G nt ops with
  | none => simp [hl] at hc
  | some l =>
    simp only [hl] at hc
    have hops := compileOps_R hl
    have fin : ∀ (sx : AState), sx = s' → x = .normal → ∀ a' w' E', Ext s.2.next E E' → s.2.next ≤ sx.2.next → StR G B w0 nt E' sx a' w' → Left G B w0 nt E s x s' .normal a' w' := by
      intro sx e1 e2 a' w' E' q1 q2 q3
      subst e1; subst e2
      exact ⟨rfl, E', q1, q2, q3⟩
    have text : aops C l s = some s' → x = .normal → wpOps P ops (Left G B w0 nt E s x s') (List.range ops.size) a w := by
      intro h1 h2
      have := text_sound hC hops l 0 E s s' a w (by simp) hr h1 (Q := Left G B w0 nt E s x s') (fin s' rfl h2)
      rwa [hops.len, ← List.range_eq_range'] at this
    cases draw with
    | false =>
      simp only [Bool.false_eq_true, if_false, Option.some.injEq] at hc
      subst hc
      simp only [acode, aregion_bare] at hs
      simp only [aregion] at hs
      cases h1 : aops C l s with
      | none => simp [h1] at hs
      | some s1 =>
        simp [h1] at hs
        obtain ⟨rfl, rfl⟩ := hs
        exact wp_region (text h1 rfl)
    | true =>
      simp only [if_true] at hc
      split at hc
      · rename_i hok
        rw [Bool.and_eq_true] at hok
        simp only [Option.some.injEq] at hc
        subst hc
        -- the trace
        have tr : ∃ s1, s1 = s' ∧ x = .normal ∧ ∃ tr, atrace C l s = some tr ∧ tr.getLast? = some s1 ∧ (floatsOf l).all (floatOk l tr) = true := by
          simp only [acode, aregion_bare] at hs
          simp only [aregion] at hs
          cases hf : floatsOf l with
          | nil =>
            rw [hf] at hs
            simp only at hs
            cases h1 : aops C l s with
            | none => simp [h1] at hs
            | some s1 =>
              simp [h1] at hs
              obtain ⟨rfl, rfl⟩ := hs
              refine ⟨s1, rfl, rfl, ?_⟩
              have tr_of : ∀ (l : List AOper) (s s1 : AState), aops C l s = some s1 → ∃ tr, atrace C l s = some tr ∧ tr.getLast? = some s1 := by
                intro l
                induction l with
                | nil => intro s s1 h; simp [aops] at h; subst h; exact ⟨[s], rfl, rfl⟩
                | cons o l ih =>
                  intro s s1 h
                  unfold aops at h
                  cases h2 : aop C o s with
                  | none => simp [h2] at h
                  | some s2 =>
                    simp only [h2] at h
                    obtain ⟨tr, q1, q2⟩ := ih s2 s1 h
                    refine ⟨s :: tr, by unfold atrace; rw [h2]; simp only [q1], ?_⟩
                    cases tr with
                    | nil => simp at q2
                    | cons t tr => rw [List.getLast?_cons_cons]; exact q2
              obtain ⟨tr, q1, q2⟩ := tr_of l s s1 h1
              exact ⟨tr, q1, q2, by simp⟩
          | cons f fs =>
            rw [hf] at hs
            simp only at hs
            cases h1 : atrace C l s with
            | none => simp [h1] at hs
            | some tr =>
              simp only [h1] at hs
              by_cases hall : (f :: fs).all (floatOk l tr) = true
              · rw [if_pos hall] at hs
                cases h2 : tr.getLast? with
                | none => simp [h2] at hs
                | some s1 =>
                  simp [h2] at hs
                  obtain ⟨rfl, rfl⟩ := hs
                  exact ⟨s1, rfl, rfl, tr, rfl, h2, hall⟩
              · rw [if_neg hall] at hs
                simp at hs
        obtain ⟨s1, hs1, hx, htr⟩ := tr
        obtain ⟨st, val, hran, e0, e1, hfl⟩ := ran_of htr
        refine wp_region_any hm ?_
        have hD0 : ∀ j, (Array.replicate ops.size false).getD j false = false := by
          intro j
          rw [Array.getD_eq_getD_getElem?]
          by_cases hj : j < ops.size
          · simp [hj]
          · simp [Array.getElem?_eq_none, hj]
        have hfun : (fun j => (Array.replicate ops.size false).getD j false) = fun _ => false := funext hD0
        have hsn : stateOf l st val (fun j => (Array.replicate ops.size false).getD j false) = s := by rw [hfun, stateOf_none, e0]
        have hleft : ∀ n, left (fun _ => false) n = n := by
          intro n
          induction n with
          | zero => rfl
          | succ n ih => unfold left; rw [ih]; simp
        have hrd : StR G B w0 nt E s a { w with drawn := w.drawn + 1 } := ⟨hr.env, hr.heap.drew, hr.nt, hr.defers⟩
        refine any_sound (B := B) (w0 := w0) hC hops hok.1 hok.2 hran hfl (E0 := E) (Q := Left G B w0 nt E s x s') ?_ ops.size _ E a _ (by simp) ?_ ?_ (Ext.refl _ _) ?_ ?_
        · intro a' w' E' q1 q2 q3
          rw [e0] at q1 q2
          rw [e1] at q2 q3
          exact fin s1 hs1 hx a' w' E' q1 q2 q3
        · rw [hfun, hleft, hops.len]; exact Nat.le_refl _
        · rw [hfun]; intro i y _ hf; cases hf
        · rw [hsn, e0]; exact Nat.le_refl _
        · rw [hsn]; exact hrd
      · cases hc

theorem acode_sound (hC : CallOk P G C) (hm : P.follows .mixedOrders = true) {nt : Nat} : ∀ (n : Nat) (c : Code) (ac : ACode) (E : Nat → Ent) (s s' : AState) (x : AExit) (a : Act) (w : World), compileCode P G nt c = some ac →
    StR G B w0 nt E s a w → acode C n ac s = some (x, s') → c.wp P (Left G B w0 nt E s x s') a w := by
  intro n
  induction n using Nat.strongRecOn with
  | _ n ih =>
    intro c ac E s s' x a w hc hr hs
    cases n with
    | zero => simp [acode] at hs
    | succ n =>
      cases c with
      | skip =>
        simp [compileCode] at hc; subst hc
        simp [acode] at hs
        obtain ⟨rfl, rfl⟩ := hs
        exact wp_skip ⟨rfl, E, Ext.refl _ _, Nat.le_refl _, hr⟩
      | region id ops draw => exact region_sound hC hm hc hr hs
      | seq y z =>
        unfold compileCode at hc
        cases h1 : compileCode P G nt y with
        | none => simp [h1] at hc
        | some ay =>
          cases h2 : compileCode P G nt z with
          | none => simp [h1, h2] at hc
          | some az =>
            simp [h1, h2] at hc
            subst hc
            unfold acode at hs
            cases h3 : acode C n ay s with
            | none => simp [h3] at hs
            | some p =>
              obtain ⟨x1, s1⟩ := p
              have i1 := ih n (by omega) y ay E s s1 x1 a w h1 hr h3
              refine wp_seq (wp_mono i1 ?_)
              rintro e a1 w1 ⟨rfl, E1, q1, q2, q3⟩
              cases x1 with
              | normal =>
                simp only [h3] at hs
                exact wp_mono (ih n (by omega) z az E1 s1 s' x a1 w1 h2 q3 hs) (fun e a2 w2 k => Left.from_ q1 q2 k)
              | exit id =>
                simp [h3] at hs
                obtain ⟨rfl, rfl⟩ := hs
                exact ⟨rfl, E1, q1, q2, q3⟩
              | ret =>
                simp [h3] at hs
                obtain ⟨rfl, rfl⟩ := hs
                exact ⟨rfl, E1, q1, q2, q3⟩
      | cond cc y z =>
        unfold compileCode at hc
        cases h0 : opd G cc with
        | none => simp [h0] at hc
        | some oc =>
          cases h1 : compileCode P G nt y with
          | none => simp [h0, h1] at hc
          | some ay =>
            cases h2 : compileCode P G nt z with
            | none => simp [h0, h1, h2] at hc
            | some az =>
              simp [h0, h1, h2] at hc
              subst hc
              have hv := opd_VR hr.env h0
              unfold acode at hs
              cases he : s.1.ev oc with
              | bool b =>
                rw [he] at hv hs
                cases b with
                | true => exact wp_cond_true hv (ih n (by omega) y ay E s s' x a w h1 hr (by simpa using hs))
                | false => exact wp_cond_false hv (ih n (by omega) z az E s s' x a w h2 hr (by simpa using hs))
              | _ => rw [he] at hs; simp at hs
      | block id y =>
        unfold compileCode at hc
        cases h1 : compileCode P G nt y with
        | none => simp [h1] at hc
        | some ay =>
          simp [h1] at hc
          subst hc
          unfold acode at hs
          cases h3 : acode C n ay s with
          | none => simp [h3] at hs
          | some p =>
            obtain ⟨x1, s1⟩ := p
            have i1 := ih n (by omega) y ay E s s1 x1 a w h1 hr h3
            refine wp_block (wp_mono i1 ?_)
            rintro e a1 w1 ⟨rfl, E1, q1, q2, q3⟩
            cases x1 with
            | normal =>
              simp [h3] at hs
              obtain ⟨rfl, rfl⟩ := hs
              exact ⟨rfl, E1, q1, q2, q3⟩
            | exit i =>
              simp only [h3] at hs
              show (if i = id then Left G B w0 nt E s x s' Exit.normal a1 w1 else Left G B w0 nt E s x s' (Exit.exit i) a1 w1)
              by_cases hi : i = id
              · rw [if_pos hi] at hs ⊢
                simp at hs
                obtain ⟨rfl, rfl⟩ := hs
                exact ⟨rfl, E1, q1, q2, q3⟩
              · rw [if_neg hi] at hs ⊢
                simp at hs
                obtain ⟨rfl, rfl⟩ := hs
                exact ⟨rfl, E1, q1, q2, q3⟩
            | ret =>
              simp [h3] at hs
              obtain ⟨rfl, rfl⟩ := hs
              exact ⟨rfl, E1, q1, q2, q3⟩
      | loop y =>
        unfold compileCode at hc
        cases h1 : compileCode P G nt y with
        | none => simp [h1] at hc
        | some ay =>
          simp [h1] at hc
          subst hc
          refine wp_loop_n (fun m a' w' => m ≤ n + 1 ∧ ∃ E1 s1, acode C m (.loop ay) s1 = some (x, s') ∧ Ext s.2.next E E1 ∧ s.2.next ≤ s1.2.next ∧ StR G B w0 nt E1 s1 a' w') ?_ (n := n + 1) ⟨Nat.le_refl _, E, s, hs, Ext.refl _ _, Nat.le_refl _, hr⟩
          rintro m a1 w1 ⟨hmn, E1, s1, hm1, q1, q2, q3⟩
          cases m with
          | zero => simp [acode] at hm1
          | succ m =>
            unfold acode at hm1
            cases h3 : acode C m ay s1 with
            | none => simp [h3] at hm1
            | some p =>
              obtain ⟨x2, s2⟩ := p
              have i1 := ih m (by omega) y ay E1 s1 s2 x2 a1 w1 h1 q3 h3
              refine wp_mono i1 ?_
              rintro e a2 w2 ⟨rfl, E2, r1, r2, r3⟩
              cases x2 with
              | normal =>
                simp only [h3] at hm1
                exact ⟨m, by omega, by omega, E2, s2, hm1, q1.trans r1 q2, Nat.le_trans q2 r2, r3⟩
              | exit i =>
                simp [h3] at hm1
                obtain ⟨rfl, rfl⟩ := hm1
                exact ⟨rfl, E2, q1.trans r1 q2, Nat.le_trans q2 r2, r3⟩
              | ret =>
                simp [h3] at hm1
                obtain ⟨rfl, rfl⟩ := hm1
                exact ⟨rfl, E2, q1.trans r1 q2, Nat.le_trans q2 r2, r3⟩
      | exit id =>
        simp [compileCode] at hc; subst hc
        simp [acode] at hs
        obtain ⟨rfl, rfl⟩ := hs
        exact wp_exit ⟨rfl, E, Ext.refl _ _, Nat.le_refl _, hr⟩
      | ret =>
        simp [compileCode] at hc; subst hc
        simp [acode] at hs
        obtain ⟨rfl, rfl⟩ := hs
        exact wp_ret ⟨rfl, E, Ext.refl _ _, Nat.le_refl _, hr⟩
      | _ => simp [compileCode] at hc

/-! ### Calls -/
/-- How a table of functions, and of those that are told, stands to a program. -/
structure Link (P : Program) (G : Nat → Nat) (F : Nat → Option AFunc) (prims : Nat → Option (List AV → AHeap → Option (AV × AHeap))) : Prop where
  mixed : P.follows .mixedOrders = true
  fn : ∀ f ir, F (G f) = some ir → ∃ fn, P.funcs[f]? = some fn ∧ compileFn P G fn = some ir
  prim : ∀ f p, prims (G f) = some p → ∀ args H v H', p args H = some (v, H') → ∀ B w0 E w us, HRel G B w0 E H w → VRs G H.next E args us → Back P G B w0 E H w (callFunc f us.toArray) v H'

def resOf (tmps : Array Value) : ResultVar → Sem Value
  | .tmp t => pure (tmps.getD t Go.undef)
  | .cell a t => do loadVar t (← asAddr (tmps.getD a Go.undef))

theorem res_sound {E : Nat → Ent} {H : AHeap} {w : World} {env : Env} {a : Act} (h : HRel G B w0 E H w) (he : EnvR G H.next E env a) : ∀ (rs : List ResultVar) (ars : List ARes) (vs : List AV), mapO (compileRes P) rs = some ars → ares env H ars = some vs →
    ∃ us, (rs.mapM (resOf a.tmps) : Sem (List Value)).run P w = .ok us w ∧ VRs G H.next E vs us
  | [], ars, vs, hc, hs => by
    simp [mapO] at hc; subst hc
    simp [ares] at hs; subst hs
    exact ⟨[], by simp, rfl⟩
  | r :: rs, ars, vs, hc, hs => by
    unfold mapO at hc
    cases h1 : compileRes P r with
    | none => simp [h1] at hc
    | some ar =>
      cases h2 : mapO (compileRes P) rs with
      | none => simp [h1, h2] at hc
      | some ars' =>
        simp [h1, h2] at hc
        subst hc
        cases r with
        | tmp t =>
          simp [compileRes] at h1
          subst h1
          unfold ares at hs
          cases h3 : ares env H ars' with
          | none => simp [h3] at hs
          | some vs' =>
            simp [h3] at hs
            subst hs
            obtain ⟨us, q1, q2⟩ := res_sound h he rs ars' vs' h2 h3
            refine ⟨a.tmps.getD t Go.undef :: us, ?_, ⟨_, _, rfl, he t, q2⟩⟩
            rw [List.mapM_cons, Sem.run_bind]
            simp only [resOf, Sem.run_pure, Result.andThen_ok, Sem.run_bind, q1]
        | cell ad t =>
          unfold compileRes at h1
          cases hz : sizeT P t with
          | none => simp [hz] at h1
          | some m =>
            cases hg : aggT P t with
            | none => simp [hz, hg] at h1
            | some g =>
              simp only [hz, hg] at h1
              split at h1
              · rename_i hgm
                simp at h1
                subst h1
                unfold ares at hs
                have hv := he ad
                cases e1 : env ad <;> rw [e1] at hs hv <;> try (cases hs; done)
                rename_i p
                cases p with
                | none => simp at hs
                | some p =>
                  obtain ⟨b, off⟩ := p
                  simp only at hs
                  cases hl : H.ld b off m with
                  | none => simp [hl] at hs
                  | some cs =>
                    cases h3 : ares env H ars' with
                    | none => simp [hl, h3] at hs
                    | some vs' =>
                      simp only [hl, h3] at hs
                      obtain ⟨us, q1, q2⟩ := res_sound h he rs ars' vs' h2 h3
                      obtain ⟨_, ws, r2, r3, r4, r5⟩ := h.loadCells (P := P) hl
                      cases g with
                      | true =>
                        simp at hs
                        subst hs
                        refine ⟨.agg ws.toArray :: us, ?_, ⟨_, _, rfl, ⟨ws.toArray, rfl, by simpa using r2⟩, q2⟩⟩
                        have hv2 : a.tmps.getD ad Go.undef = .pointer (some ⟨(E b).g, (E b).o + off, none⟩) := hv.2
                        rw [List.mapM_cons, Sem.run_bind]
                        simp only [resOf, hv2, asAddr, loadVar, Sem.run_pure, Result.andThen_ok, Sem.run_bind, run_isAgg hg, run_sizeOf hz, r3, q1, if_true]
                      | false =>
                        simp only [Bool.false_eq_true, if_false] at hs
                        cases hc0 : cs[0]? with
                        | none => simp [hc0] at hs
                        | some z =>
                          simp [hc0] at hs
                          subst hs
                          obtain ⟨u, q6, q7⟩ := r2.get _ _ hc0
                          have q8 := r5 0 u q6
                          simp only [Nat.add_zero] at q8
                          have hv2 : a.tmps.getD ad Go.undef = .pointer (some ⟨(E b).g, (E b).o + off, none⟩) := hv.2
                          refine ⟨u :: us, ?_, ⟨_, _, rfl, q7, q2⟩⟩
                          rw [List.mapM_cons, Sem.run_bind]
                          simp only [resOf, hv2, asAddr, loadVar, Sem.run_pure, Result.andThen_ok, Sem.run_bind, run_isAgg hg, run_load, q8, q1, Bool.false_eq_true, if_false]
              · cases h1

theorem acall_sound {F : Nat → Option AFunc} {prims : Nat → Option (List AV → AHeap → Option (AV × AHeap))} (L : Link P G F prims) : ∀ n, CallOk P G (acall F prims n)
  | 0 => by intro f args H v H' h; simp [acall] at h
  | n + 1 => by
    intro f args H v H' h B w0 E w us hr hv
    unfold acall at h
    cases hp : prims (G f) with
    | some p =>
      rw [hp] at h
      exact L.prim f p hp args H v H' h B w0 E w us hr hv
    | none =>
      rw [hp] at h
      simp only at h
      cases hF : F (G f) with
      | none => simp [hF] at h
      | some ir =>
        simp only [hF] at h
        obtain ⟨fn, hfn, hcf⟩ := L.fn f ir hF
        unfold compileFn at hcf
        cases hb : fn.body with
        | none => simp [hb] at hcf
        | some c =>
          simp only [hb] at hcf
          cases h1 : compileCode P G fn.ntmps c with
          | none => simp [h1] at hcf
          | some ac =>
            cases h2 : mapO (compileRes P) fn.results.toList with
            | none => simp [h1, h2] at hcf
            | some ars =>
              simp only [h1, h2] at hcf
              split at hcf
              · cases hcf
              · rename_i hname
                simp only [Option.some.injEq] at hcf
                subst hcf
                have hC := acall_sound L n
                right
                refine ⟨f, us.toArray, ?_, ?_⟩
                · have hnn : (fn.name == "runtime.NumGoroutine") = false := by simpa using hname
                  simp [callFunc, hfn, hb, hname]
                · -- the body
                  have body : ∃ x s, acode (acall F prims n) (n + 1) ac (fun i => args.getD i .undef, H) = some (x, s) ∧ (x = .normal ∨ x = .ret) ∧ ∃ vs, ares s.1 s.2 ars = some vs ∧ v = one vs ∧ H' = s.2 := by
                    cases h3 : acode (acall F prims n) (n + 1) ac (fun i => args.getD i .undef, H) with
                    | none => simp only [h3] at h; cases h
                    | some p =>
                      obtain ⟨x, s⟩ := p
                      simp only [h3] at h
                      have key : (match ares s.1 s.2 ars with | some vs => some (one vs, s.2) | none => none) = some (v, H') → ∃ vs, ares s.1 s.2 ars = some vs ∧ v = one vs ∧ H' = s.2 := by
                        intro hk
                        cases h4 : ares s.1 s.2 ars with
                        | none => simp [h4] at hk
                        | some vs => simp [h4] at hk; exact ⟨vs, rfl, hk.1.symm, hk.2.symm⟩
                      cases x with
                      | normal => exact ⟨_, s, rfl, .inl rfl, key h⟩
                      | ret => exact ⟨_, s, rfl, .inr rfl, key h⟩
                      | exit id => simp at h
                  obtain ⟨x, s, h3, hx, vs, h4, rfl, rfl⟩ := body
                  refine calls_of_wp hfn hb ?_
                  have hstart : StR G B w0 fn.ntmps E (fun i => args.getD i .undef, H) { tmps := us.toArray ++ Array.replicate (fn.ntmps - us.toArray.size) Go.undef, defers := [] } w := by
                    refine ⟨fun i => ?_, hr, ?_, rfl⟩
                    · show VR G H.next E (args.getD i .undef) _
                      rw [List.getD_eq_getElem?_getD]
                      cases hi : args[i]? with
                      | none => simp only [Option.getD_none]; trivial
                      | some z =>
                        obtain ⟨u, q1, q2⟩ := hv.get _ _ hi
                        have hlt : i < us.length := (List.getElem?_eq_some_iff.1 q1).1
                        simp only [Option.getD_some]
                        have : (us.toArray ++ Array.replicate (fn.ntmps - us.toArray.size) Go.undef).getD i Go.undef = u := by
                          rw [Array.getD_eq_getD_getElem?, Array.getElem?_append_left (by simpa using hlt)]
                          simp [q1]
                        rw [this]; exact q2
                    · simp; omega
                  refine wp_mono (acode_sound hC L.mixed (n + 1) c ac E _ s x _ w h1 hstart h3) ?_
                  rintro e a1 w1 ⟨rfl, E1, q1, q2, q3⟩
                  obtain ⟨us', r1, r2⟩ := res_sound (P := P) q3.heap q3.env fn.results.toList ars vs h2 h4
                  have hres : (results fn a1.tmps).run P w1 = .ok (if h : us'.toArray.size = 1 then us'.toArray[0] else .tuple us'.toArray) w1 := by
                    unfold results
                    have e0 : (fn.results.mapM (resOf a1.tmps) : Sem (Array Value)).run P w1 = .ok us'.toArray w1 := by
                      rw [Array.mapM_eq_mapM_toList, Sem.run_map, r1]; rfl
                    show ((fn.results.mapM (resOf a1.tmps) : Sem (Array Value)) >>= fun vs => pure (if h : vs.size = 1 then vs[0] else .tuple vs)).run P w1 = _
                    rw [Sem.run_bind, e0]
                    rfl
                  have hone : VR G s.2.next E1 (one vs) (if h : us'.toArray.size = 1 then us'.toArray[0] else .tuple us'.toArray) := by
                    have hl := r2.length
                    cases vs with
                    | nil =>
                      obtain rfl : us' = [] := r2
                      exact ⟨#[], rfl, rfl⟩
                    | cons v1 vs =>
                      cases vs with
                      | nil =>
                        obtain ⟨u1, us1, rfl, p1, p2⟩ := r2
                        obtain rfl : us1 = [] := p2
                        exact p1
                      | cons v2 vs =>
                        have : ¬ us'.toArray.size = 1 := by simp at hl ⊢; omega
                        rw [dif_neg this]
                        exact ⟨us'.toArray, rfl, by simpa using r2⟩
                  have fin : a1.defers = [] ∧ ∃ v', (results fn a1.tmps).run P w1 = .ok v' w1 ∧ (fun (e : Ending) (w' : World) => ∃ u E', e = .returned u ∧ VR G s.2.next E' (one vs) u ∧ H.next ≤ s.2.next ∧ Ext H.next E E' ∧ HRel G B w0 E' s.2 w') (.returned v') w1 :=
                    ⟨q3.defers, _, hres, _, E1, rfl, hone, q2, q1, q3.heap⟩
                  rcases hx with rfl | rfl
                  · exact fin
                  · exact fin

end
end Go.Am
