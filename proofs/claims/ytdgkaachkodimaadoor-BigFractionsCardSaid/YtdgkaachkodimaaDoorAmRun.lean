/- What the small machine's code and calls do, the model's do. -/
import Derived.Test.YtdgkaachkodimaaDoorAmLoop
import Derived.Test.YtdgkaachkodimaaDoorAmPerm
import Derived.Test.YtdgkaachkodimaaDoorAmWp
import Derived.RangeFuncLeaves
set_option linter.unusedVariables false
set_option linter.unusedSimpArgs false
namespace Go.Am
open Go.RowKit
variable {G : Nat → Nat} {P : Program}
section
variable {B : Prot} {w0 : Base} {C : CallF} {CO : Ora → CallF} {FT : Nat → Option AFunc}
theorem aops_bare (C : CallF) : ∀ (l : List AOper) (s : AState), aops C (l.map AOper.bare) s = aops C l s
  | [], s => rfl
  | o :: l, s => by
    simp only [List.map_cons, aops]
    have : aop C o.bare s = aop C o s := rfl
    rw [this]
    cases aop C o s with
    | none => rfl
    | some s' => exact aops_bare C l s'
theorem atrace_bare (C : CallF) : ∀ (l : List AOper) (s : AState), atrace C (l.map AOper.bare) s = atrace C l s
  | [], s => rfl
  | o :: l, s => by
    simp only [List.map_cons, atrace]
    have : aop C o.bare s = aop C o s := rfl
    rw [this]
    cases aop C o s with
    | none => rfl
    | some s' => simp only [atrace_bare C l s']
theorem aregion_bare (C : CallF) (l : List AOper) (fl : List (Nat × Nat)) (s : AState) : aregion C (l.map AOper.bare) fl s = aregion C l fl s := by
  unfold aregion
  have hf : ∀ tr, floatOk (l.map AOper.bare) tr = floatOk l tr := by
    intro tr
    funext f
    unfold floatOk
    rw [List.getElem?_map]
    cases l[f.1]? <;> cases tr[f.1]? <;> cases tr[f.2]? <;> cases tr[f.2 + 1]? <;> rfl
  cases fl with
  | nil => exact aops_bare C l s
  | cons f fl => simp only [atrace_bare, hf]
theorem failC_none (C : CallF) (n : Nat) (s : AState) : acode FT C n failC s = none := by
  cases n with
  | zero => rfl
  | succ n => simp [failC, acode, aregion, aops, aop, step1, wanted, osem, psem]
/-- A region in whatever order: its trace. -/
theorem region_trace {l : List AOper} {n : Nat} {s s' : AState} {x : AExit} (hs : acode FT C (n + 1) (.region (l.map AOper.bare) true (floatsOf l)) s = some (x, s')) :
    x = .normal ∧ ∃ st val, Ran C l st val ∧ st 0 = s ∧ st l.length = s' ∧ FloatsOk l st val := by
  have tr : ∃ s1, s1 = s' ∧ x = .normal ∧ ∃ tr, atrace C l s = some tr ∧ tr.getLast? = some s1 ∧ (floatsOf l).all (floatOk l tr) = true := by
    simp only [acode, aregion_bare] at hs
    simp only [aregion] at hs
    cases hf : floatsOf l with
    | nil =>
      rw [hf] at hs
      simp only at hs
      cases h1 : aops C l s with
      | none => simp [h1] at hs
      | some s1 =>
        simp [h1] at hs
        obtain ⟨rfl, rfl⟩ := hs
        refine ⟨s1, rfl, rfl, ?_⟩
        have tr_of : ∀ (l : List AOper) (s s1 : AState), aops C l s = some s1 → ∃ tr, atrace C l s = some tr ∧ tr.getLast? = some s1 := by
          intro l
          induction l with
          | nil => intro s s1 h; simp [aops] at h; subst h; exact ⟨[s], rfl, rfl⟩
          | cons o l ih =>
            intro s s1 h
            unfold aops at h
            cases h2 : aop C o s with
            | none => simp [h2] at h
            | some s2 =>
              simp only [h2] at h
              obtain ⟨tr, q1, q2⟩ := ih s2 s1 h
              refine ⟨s :: tr, by unfold atrace; rw [h2]; simp only [q1], ?_⟩
              cases tr with
              | nil => simp at q2
              | cons t tr => rw [List.getLast?_cons_cons]; exact q2
        obtain ⟨tr, q1, q2⟩ := tr_of l s s1 h1
        exact ⟨tr, q1, q2, by simp⟩
    | cons f fs =>
      rw [hf] at hs
      simp only at hs
      cases h1 : atrace C l s with
      | none => simp [h1] at hs
      | some tr =>
        simp only [h1] at hs
        by_cases hall : (f :: fs).all (floatOk l tr) = true
        · rw [if_pos hall] at hs
          cases h2 : tr.getLast? with
          | none => simp [h2] at hs
          | some s1 =>
            simp [h2] at hs
            obtain ⟨rfl, rfl⟩ := hs
            exact ⟨s1, rfl, rfl, tr, rfl, h2, hall⟩
        · rw [if_neg hall] at hs
          simp at hs
  obtain ⟨s1, hs1, hx, htr⟩ := tr
  obtain ⟨st, val, hran, e0, e1, hfl⟩ := ran_of htr
  exact ⟨hx, st, val, hran, e0, by rw [e1, hs1], hfl⟩
theorem ran_det {l : List AOper} {st st' : Nat → AState} {val val' : Nat → AV} (r : Ran C l st val) (r' : Ran C l st' val') (h0 : st 0 = st' 0) : ∀ i, i ≤ l.length → st i = st' i
  | 0, _ => h0
  | i + 1, hi => by
    have ih := ran_det r r' h0 i (by omega)
    have hx : l[i]? = some (l[i]'(by omega)) := List.getElem?_eq_getElem _
    have a1 := r.step i _ hx
    have a2 := r'.step i _ hx
    rw [← ih, a1] at a2
    simp only [Option.some.injEq, Prod.mk.injEq] at a2
    exact Prod.ext (by rw [r.env i _ hx, r'.env i _ hx, ih, a2.1]) a2.2
theorem plain_region {ro : Option Nat} {id : Nat} {ops : Array Oper} {draw : Bool} (h : ro = none ∨ plainC (.region id ops draw) = true) : NoD ro ops := by
  refine h.imp (fun h => h) fun h i o ho => ?_
  simp only [plainC, List.all_eq_true, Bool.not_eq_true'] at h
  exact h o (by rw [← Array.getElem?_toList] at ho; exact List.mem_of_getElem? ho)
theorem plain_seq1 {ro : Option Nat} {y z : Code} (h : ro = none ∨ plainC (.seq y z) = true) : ro = none ∨ plainC y = true := h.imp id fun h => by simp only [plainC, Bool.and_eq_true] at h; exact h.1
theorem plain_seq2 {ro : Option Nat} {y z : Code} (h : ro = none ∨ plainC (.seq y z) = true) : ro = none ∨ plainC z = true := h.imp id fun h => by simp only [plainC, Bool.and_eq_true] at h; exact h.2
theorem plain_cond1 {ro : Option Nat} {c : Operand} {y z : Code} (h : ro = none ∨ plainC (.cond c y z) = true) : ro = none ∨ plainC y = true := h.imp id fun h => by simp only [plainC, Bool.and_eq_true] at h; exact h.1
theorem plain_cond2 {ro : Option Nat} {c : Operand} {y z : Code} (h : ro = none ∨ plainC (.cond c y z) = true) : ro = none ∨ plainC z = true := h.imp id fun h => by simp only [plainC, Bool.and_eq_true] at h; exact h.2
theorem plain_block {ro : Option Nat} {i : Nat} {y : Code} (h : ro = none ∨ plainC (.block i y) = true) : ro = none ∨ plainC y = true := h.imp id fun h => by simpa only [plainC] using h
theorem plain_loop {ro : Option Nat} {y : Code} (h : ro = none ∨ plainC (.loop y) = true) : ro = none ∨ plainC y = true := h.imp id fun h => by simpa only [plainC] using h
theorem region_any {ro : Option Nat} (hC : CallOk P G B w0 CO) {nt : Nat} {ops : Array Oper} {l : List AOper} (hops : OpsR P G nt ops l) (hnd : NoD ro ops) (hok : regOk l = true ∧ edgesOk ops l = true) {n : Nat} {E : Nat → Ent} {s : AState} {a : Act} {w : World} {ω : Ora}
    (hr : StR G B w0 nt E s a w) (hf : ∀ ω', Agree ω ω' s.2.next → ∃ x s', acode FT (CO ω') (n + 1) (.region (l.map AOper.bare) true (floatsOf l)) s = some (x, s')) :
    wpAnyIn (FR ro) 0 P .any ops (Left G B w0 nt E s fun x s' => ∃ ω', Agree ω ω' s.2.next ∧ acode FT (CO ω') (n + 1) (.region (l.map AOper.bare) true (floatsOf l)) s = some (x, s')) ops.size (Array.replicate ops.size false) a { w with drawn := w.drawn + 1 } := by
  have fam : ∀ ω', Agree ω ω' s.2.next → ∃ st val, Ran (CO ω') l st val ∧ FloatsOk l st val ∧ st 0 = s ∧ acode FT (CO ω') (n + 1) (.region (l.map AOper.bare) true (floatsOf l)) s = some (.normal, st l.length) := by
    intro ω' hag
    obtain ⟨x, s', h⟩ := hf ω' hag
    obtain ⟨rfl, st, val, q1, q2, q3, q4⟩ := region_trace h
    exact ⟨st, val, q1, q4, q2, by rw [q3]; exact h⟩
  obtain ⟨st, val, hran, hfl, e0, _⟩ := fam ω .refl
  have hD0 : ∀ j, (Array.replicate ops.size false).getD j false = false := by
    intro j
    rw [Array.getD_eq_getD_getElem?]
    by_cases hj : j < ops.size
    · simp [hj]
    · simp [Array.getElem?_eq_none, hj]
  have hfun : (fun j => (Array.replicate ops.size false).getD j false) = fun _ => false := funext hD0
  have hleft : ∀ n, left (fun _ => false) n = n := by
    intro n
    induction n with
    | zero => rfl
    | succ n ih => unfold left; rw [ih]; simp
  have hrd : StR G B w0 nt E s a { w with drawn := w.drawn + 1 } := ⟨hr.env, hr.heap.drew, hr.cap, hr.nt, hr.defers⟩
  have hsn2 : stateOf l st val (fun _ => false) = s := by rw [stateOf_none, e0]
  have nop : ∀ {D : Nat → Bool}, D = (fun _ => false) → ∀ j, ¬ Pend l D (fun _ => false) j := by
    rintro D rfl j ⟨_, h, _⟩; cases h
  refine any_sound (B := B) (w0 := w0) hC hops hnd hok.1 hok.2 (s0 := s) (ω0 := ω) (fun ω' hag => ?_) (E0 := E) (Q := Left G B w0 nt E s fun x s' => ∃ ω', Agree ω ω' s.2.next ∧ acode FT (CO ω') (n + 1) (.region (l.map AOper.bare) true (floatsOf l)) s = some (x, s')) ?_ ops.size _ (fun _ => false) (fun _ => 0) B E a _ ω st val .refl hran hfl e0 (by simp) ?_ ?_ ?_ (Ext.refl _ _) ?_
  · obtain ⟨st, val, q1, q2, q3, _⟩ := fam ω' hag
    exact ⟨st, val, q1, q2, q3⟩
  · intro ω' st' val' hag hran' hfl' h0' a' w' E' q1 q2 q3
    obtain ⟨st2, val2, p1, p2, p3, p4⟩ := fam ω' hag
    refine ⟨.normal, st' l.length, ⟨ω', hag, ?_⟩, rfl, E', q1, q2, q3⟩
    rw [p4, ran_det p1 hran' (by rw [p3, h0']) l.length (Nat.le_refl _)]
  · rw [hfun, hleft, hops.len]; exact Nat.le_refl _
  · rw [hfun]
    refine ⟨fun i y _ hf => (by cases hf), fun i y _ hf => (by cases hf), fun i j _ _ _ hf => (by cases hf), fun j hf => (by cases hf), fun j hj => absurd hj (nop rfl j), ?_, fun j hj => absurd hj (nop rfl j), fun i j hi => absurd hi (nop rfl i), Sub.refl B, fun g o hg => .inl hg, fun j hj => absurd hj (nop rfl j)⟩
    rw [hsn2]
    have hdf : DefR G s.2.next E (envP l (fun _ => false) (fun _ => false) s.1 dfrT) a.defers := by
      rw [envP_dfr fun j hj => absurd hj (nop rfl j)]; exact hrd.defers
    refine ⟨fun t htd => ?_, hrd.heap, hrd.cap, hrd.nt, hdf⟩
    show VR G s.2.next E (envP l (fun _ => false) (fun _ => false) s.1 t) _
    unfold envP
    rw [if_neg]
    · exact hrd.env t htd
    · intro hp
      obtain ⟨j, y, p1, _⟩ := pendT_iff.1 hp
      exact nop rfl j p1
  · rw [hfun]; exact fun j hj => absurd hj (nop rfl j)
  · rw [hsn2]; exact Nat.le_refl _
theorem region_sound {ro : Option Nat} (hC : CallOk P G B w0 CO) (hm : P.follows .mixedOrders = true) {nt id : Nat} {ops : Array Oper} {draw : Bool} {ac : ACode} (hc : compileCode P G nt (.region id ops draw) = some ac) {n : Nat} {E : Nat → Ent} {s : AState} {a : Act} {w : World} {ω : Ora}
    (hnd : NoD ro ops) (hr : StR G B w0 nt E s a w) (hf : ∀ ω', Agree ω ω' s.2.next → ∃ x s', acode FT (CO ω') (n + 1) ac s = some (x, s')) : (Code.region id ops draw).wpIn (FR ro) 0 P (Left G B w0 nt E s fun x s' => ∃ ω', Agree ω ω' s.2.next ∧ acode FT (CO ω') (n + 1) ac s = some (x, s')) a w := by
  have nofail : ac ≠ failC := by
    rintro rfl
    obtain ⟨x, s', h⟩ := hf ω .refl
    rw [failC_none] at h; cases h
  unfold compileCode at hc
  cases hl : compileOps P G nt ops with
  | none => simp [hl] at hc; exact absurd hc.symm nofail
  | some l =>
    simp only [hl] at hc
    have hops := compileOps_R hl
    cases draw with
    | false =>
      simp only [Bool.false_eq_true, if_false, Option.some.injEq] at hc
      subst hc
      have run : ∀ ω', acode FT (CO ω') (n + 1) (.region (l.map AOper.bare) false []) s = match aops (CO ω') l s with | some s' => some (.normal, s') | none => none := by
        intro ω'
        unfold acode
        rw [aregion_bare]
        rfl
      have text := text_sound hC hops hnd l 0 E s a w ω (by simp) hr (fun ω' hag => by
        obtain ⟨x, s', h⟩ := hf ω' hag
        rw [run] at h
        cases h1 : aops (CO ω') l s with
        | none => simp [h1] at h
        | some s1 => exact ⟨s1, rfl⟩) (Q := Left G B w0 nt E s fun x s' => ∃ ω', Agree ω ω' s.2.next ∧ acode FT (CO ω') (n + 1) (.region (l.map AOper.bare) false []) s = some (x, s')) (fun ω' s' hag h1 a' w' E' q1 q2 q3 => ⟨.normal, s', ⟨ω', hag, by rw [run, h1]⟩, rfl, E', q1, q2, q3⟩)
      rw [hops.len, ← List.range_eq_range'] at text
      exact wpIn_region text
    | true =>
      simp only [if_true] at hc
      split at hc
      · rename_i hok
        rw [Bool.and_eq_true] at hok
        simp only [Option.some.injEq] at hc
        subst hc
        exact wpIn_region_any hm (region_any hC hops hnd hok hr hf)
      · unfold lateC at hc
        split at hc
        · rename_i hp
          have hR := permOk_R hp
          cases hl2 : compileOps P G nt (permOps (lateOrder l) ops) with
          | none => simp [hl2] at hc; exact absurd hc.symm nofail
          | some l2 =>
            simp only [hl2] at hc
            split at hc
            · rename_i hok
              rw [Bool.and_eq_true] at hok
              simp only [Option.some.injEq] at hc
              subst hc
              have h1 := region_any hC (compileOps_R hl2) (noD_perm hR hnd) hok hr hf
              rw [permOps_size hR] at h1
              have hD0 : ∀ j, (Array.replicate ops.size false).getD j false = false := by
                intro j
                rw [Array.getD_eq_getD_getElem?]
                by_cases hj : j < ops.size
                · simp [hj]
                · simp [Array.getElem?_eq_none, hj]
              exact wpIn_region_any hm (wpAny_perm hR ops.size _ _ _ _ (by simp) (by simp) (fun i _ => by rw [hD0, hD0]) h1)
            · simp only [Option.some.injEq] at hc; exact absurd hc.symm nofail
        · simp only [Option.some.injEq] at hc; exact absurd hc.symm nofail
/-- What a table's functions are, in a program. -/
def FnOk (P : Program) (G : Nat → Nat) (F : Nat → Option AFunc) : Prop := ∀ f ir, F (G f) = some ir → ∃ fn, P.funcs[f]? = some fn ∧ compileFn P G fn = some ir
/-- A function's text. -/
theorem entry_shape (L : FnOk P G FT) {f : Nat} {ir : AFunc} (hF : FT (G f) = some ir) :
    ∃ fn c, P.funcs[f]? = some fn ∧ fn.body = some c ∧ fn.name ≠ "runtime.NumGoroutine" ∧ mapO (compileRes P) fn.results.toList = some ir.results ∧ compileCode P G fn.ntmps c = some ir.body ∧ fn.ntmps ≤ dfrT := by
  obtain ⟨fn, hfn, hcf⟩ := L f ir hF
  unfold compileFn at hcf
  cases hb : fn.body with
  | none => simp [hb] at hcf
  | some c =>
    simp only [hb] at hcf
    cases h1 : compileCode P G fn.ntmps c with
    | none => simp [h1] at hcf
    | some ac =>
      cases h2 : mapO (compileRes P) fn.results.toList with
      | none => simp [h1, h2] at hcf
      | some ars =>
        simp only [h1, h2] at hcf
        split at hcf
        · cases hcf
        · rename_i hname
          simp only [not_or] at hname
          simp only [Option.some.injEq] at hcf
          subst hcf
          exact ⟨fn, c, hfn, hb, hname.1, h2, h1, Nat.not_lt.1 hname.2⟩
/-- A function's first state. -/
theorem entry_state {S : Prot} {fn : Func} (hnt : fn.ntmps ≤ dfrT) {args : List AV} {H : AHeap} {E : Nat → Ent} {w : World} {us : List Value} (hr : HRel G S w0 E H w) (hv : VRs G H.next E args us) :
    StR G S w0 fn.ntmps E (env0 args, H) { tmps := us.toArray ++ Array.replicate (fn.ntmps - us.toArray.size) Go.undef, defers := [] } w := by
  refine ⟨fun i hi => ?_, hr, hnt, ?_, ?_⟩
  · show VR G H.next E (env0 args i) _
    unfold env0
    rw [if_neg hi, List.getD_eq_getElem?_getD]
    cases hi : args[i]? with
    | none => simp only [Option.getD_none]; trivial
    | some z =>
      obtain ⟨u, q1, q2⟩ := hv.get _ _ hi
      have hlt : i < us.length := (List.getElem?_eq_some_iff.1 q1).1
      simp only [Option.getD_some]
      have : (us.toArray ++ Array.replicate (fn.ntmps - us.toArray.size) Go.undef).getD i Go.undef = u := by
        rw [Array.getD_eq_getD_getElem?, Array.getElem?_append_left (by simpa using hlt)]
        simp [q1]
      rw [this]; exact q2
  · simp; omega
  · show DefR G H.next E (env0 args dfrT) []
    unfold env0
    rw [if_pos rfl]
    rfl
def resOf (tmps : Array Value) : ResultVar → Sem Value
  | .tmp t => pure (tmps.getD t Go.undef)
  | .cell a t => do loadVar t (← asAddr (tmps.getD a Go.undef))
theorem res_sound {E : Nat → Ent} {H : AHeap} {w : World} {env : Env} {a : Act} (h : HRel G B w0 E H w) (he : EnvR G H.next E env a) : ∀ (rs : List ResultVar) (ars : List ARes) (vs : List AV), mapO (compileRes P) rs = some ars → ares env H ars = some vs →
    ∃ us, (rs.mapM (resOf a.tmps) : Sem (List Value)).run P w = .ok us w ∧ VRs G H.next E vs us
  | [], ars, vs, hc, hs => by
    simp [mapO] at hc; subst hc
    simp [ares] at hs; subst hs
    exact ⟨[], by simp, rfl⟩
  | r :: rs, ars, vs, hc, hs => by
    unfold mapO at hc
    cases h1 : compileRes P r with
    | none => simp [h1] at hc
    | some ar =>
      cases h2 : mapO (compileRes P) rs with
      | none => simp [h1, h2] at hc
      | some ars' =>
        simp [h1, h2] at hc
        subst hc
        cases r with
        | tmp t =>
          simp only [compileRes] at h1
          split at h1
          case isFalse => cases h1
          rename_i htd
          simp only [Option.some.injEq] at h1
          subst h1
          unfold ares at hs
          cases h3 : ares env H ars' with
          | none => simp [h3] at hs
          | some vs' =>
            simp [h3] at hs
            subst hs
            obtain ⟨us, q1, q2⟩ := res_sound h he rs ars' vs' h2 h3
            refine ⟨a.tmps.getD t Go.undef :: us, ?_, ⟨_, _, rfl, he t (Nat.ne_of_lt htd), q2⟩⟩
            rw [List.mapM_cons, Sem.run_bind]
            simp only [resOf, Sem.run_pure, Result.andThen_ok, Sem.run_bind, q1]
        | cell ad t =>
          unfold compileRes at h1
          cases hz : sizeT P t with
          | none => simp [hz] at h1
          | some m =>
            cases hg : aggT P t with
            | none => simp [hz, hg] at h1
            | some g =>
              simp only [hz, hg] at h1
              split at h1
              · rename_i hgm
                obtain ⟨hgm, htd⟩ := hgm
                simp only [Option.some.injEq] at h1
                subst h1
                unfold ares at hs
                have hv := he ad (Nat.ne_of_lt htd)
                cases e1 : env ad <;> rw [e1] at hs hv <;> try (cases hs; done)
                rename_i p
                cases p with
                | none => simp at hs
                | some p =>
                  obtain ⟨b, off⟩ := p
                  simp only at hs
                  cases hl : H.ld b off m with
                  | none => simp [hl] at hs
                  | some cs =>
                    cases h3 : ares env H ars' with
                    | none => simp [hl, h3] at hs
                    | some vs' =>
                      simp only [hl, h3] at hs
                      obtain ⟨us, q1, q2⟩ := res_sound h he rs ars' vs' h2 h3
                      obtain ⟨_, ws, r2, r3, r4, r5⟩ := h.loadCells (P := P) hl
                      cases g with
                      | true =>
                        simp at hs
                        subst hs
                        refine ⟨.agg ws.toArray :: us, ?_, ⟨_, _, rfl, ⟨ws.toArray, rfl, by simpa using r2⟩, q2⟩⟩
                        have hv2 : a.tmps.getD ad Go.undef = .pointer (some ⟨(E b).g, (E b).o + off, none⟩) := hv.2
                        rw [List.mapM_cons, Sem.run_bind]
                        simp only [resOf, hv2, asAddr, loadVar, Sem.run_pure, Result.andThen_ok, Sem.run_bind, run_isAgg hg, run_sizeOf hz, r3, q1, if_true]
                      | false =>
                        simp only [Bool.false_eq_true, if_false] at hs
                        cases hc0 : cs[0]? with
                        | none => simp [hc0] at hs
                        | some z =>
                          simp [hc0] at hs
                          subst hs
                          obtain ⟨u, q6, q7⟩ := r2.get _ _ hc0
                          have q8 := r5 0 u q6
                          simp only [Nat.add_zero] at q8
                          have hv2 : a.tmps.getD ad Go.undef = .pointer (some ⟨(E b).g, (E b).o + off, none⟩) := hv.2
                          refine ⟨u :: us, ?_, ⟨_, _, rfl, q7, q2⟩⟩
                          rw [List.mapM_cons, Sem.run_bind]
                          simp only [resOf, hv2, asAddr, loadVar, Sem.run_pure, Result.andThen_ok, Sem.run_bind, run_isAgg hg, run_load, q8, q1, Bool.false_eq_true, if_false]
              · cases h1
/-- A function's values, out of its results. -/
theorem results_sound {fn : Func} {ars : List ARes} (h2 : mapO (compileRes P) fn.results.toList = some ars) {S : Prot} {E : Nat → Ent} {H : AHeap} {w : World} {env : Env} {a : Act} (hh : HRel G S w0 E H w) (he : EnvR G H.next E env a) {vs : List AV} (h4 : ares env H ars = some vs) :
    ∃ u, (results fn a.tmps).run P w = .ok u w ∧ VR G H.next E (one vs) u := by
  obtain ⟨us', r1, r2⟩ := res_sound (P := P) hh he fn.results.toList ars vs h2 h4
  refine ⟨if h : us'.toArray.size = 1 then us'.toArray[0] else .tuple us'.toArray, ?_, ?_⟩
  · unfold results
    have e0 : (fn.results.mapM (resOf a.tmps) : Sem (Array Value)).run P w = .ok us'.toArray w := by
      rw [Array.mapM_eq_mapM_toList, Sem.run_map, r1]; rfl
    show ((fn.results.mapM (resOf a.tmps) : Sem (Array Value)) >>= fun vs => pure (if h : vs.size = 1 then vs[0] else .tuple vs)).run P w = _
    rw [Sem.run_bind, e0]
    rfl
  · have hl := r2.length
    cases vs with
    | nil =>
      obtain rfl : us' = [] := r2
      exact ⟨#[], rfl, rfl⟩
    | cons v1 vs =>
      cases vs with
      | nil =>
        obtain ⟨u1, us1, rfl, p1, p2⟩ := r2
        obtain rfl : us1 = [] := p2
        exact p1
      | cons v2 vs =>
        have : ¬ us'.toArray.size = 1 := by simp at hl ⊢; omega
        rw [dif_neg this]
        exact ⟨us'.toArray, rfl, by simpa using r2⟩
theorem acode_sound (hm : P.follows .mixedOrders = true) (hFO : FnOk P G FT) (hy : ∀ f, G f ≠ yldF) : ∀ (n : Nat) {ro : Option Nat} {B : Prot} {w0 : Base} {CO : Ora → CallF} (hC : CallOk P G B w0 CO) {nt : Nat} (c : Code) (ac : ACode) (E : Nat → Ent) (s : AState) (a : Act) (w : World) (ω : Ora), compileCode P G nt c = some ac → (ro = none ∨ plainC c = true) →
    StR G B w0 nt E s a w → (∀ ω', Agree ω ω' s.2.next → ∃ x s', acode FT (CO ω') n ac s = some (x, s')) → c.wpIn (FR ro) 0 P (Left G B w0 nt E s fun x s' => ∃ ω', Agree ω ω' s.2.next ∧ acode FT (CO ω') n ac s = some (x, s')) a w := by
  intro n
  induction n using Nat.strongRecOn with
  | _ n ih =>
    intro ro B w0 CO hC nt c ac E s a w ω hc hp hr hf
    cases n with
    | zero => obtain ⟨x, s', h⟩ := hf ω .refl; simp [acode] at h
    | succ n =>
      cases c with
      | skip =>
        simp [compileCode] at hc; subst hc
        exact wpIn_skip ⟨.normal, s, ⟨ω, .refl, rfl⟩, rfl, E, Ext.refl _ _, Nat.le_refl _, hr⟩
      | region id ops draw => exact region_sound hC hm hc (plain_region hp) hr hf
      | seq y z =>
        unfold compileCode at hc
        cases h1 : compileCode P G nt y with
        | none => simp [h1] at hc
        | some ay =>
          cases h2 : compileCode P G nt z with
          | none => simp [h1, h2] at hc
          | some az =>
            simp [h1, h2] at hc
            subst hc
            have fy : ∀ ω', Agree ω ω' s.2.next → ∃ x s', acode FT (CO ω') n ay s = some (x, s') := by
              intro ω' hag
              obtain ⟨x, s', h⟩ := hf ω' hag
              unfold acode at h
              cases h3 : acode FT (CO ω') n ay s with
              | none => simp [h3] at h
              | some p => exact ⟨p.1, p.2, rfl⟩
            have i1 := ih n (by omega) hC y ay E s a w ω h1 (plain_seq1 hp) hr fy
            refine wpIn_seq (wpIn_mono i1 ?_)
            rintro e a1 w1 ⟨x1, s1, ⟨ω1, hag1, h3⟩, rfl, E1, q1, q2, q3⟩
            have next : ∀ ω2, Agree ω1 ω2 s1.2.next → Agree ω ω2 s.2.next ∧ acode FT (CO ω2) n ay s = some (x1, s1) := fun ω2 hag2 =>
              ⟨hag1.trans (hag2.le q2), (acode_pr (hC.pr ω1 ω2 s1.2.next hag2) h3).2 (Nat.le_refl _)⟩
            cases x1 with
            | normal =>
              refine wpIn_mono (ih n (by omega) hC z az E1 s1 a1 w1 ω1 h2 (plain_seq2 hp) q3 fun ω2 hag2 => ?_) (fun e a2 w2 k => Left.from_ q1 q2 ?_ k)
              · obtain ⟨p1, p2⟩ := next ω2 hag2
                obtain ⟨x, s', h⟩ := hf ω2 p1
                unfold acode at h
                rw [p2] at h
                exact ⟨x, s', h⟩
              · rintro x s' ⟨ω2, hag2, h⟩
                obtain ⟨p1, p2⟩ := next ω2 hag2
                exact ⟨ω2, p1, by unfold acode; rw [p2]; exact h⟩
            | exit id => exact ⟨.exit id, s1, ⟨ω1, hag1, by unfold acode; rw [h3]⟩, rfl, E1, q1, q2, q3⟩
            | ret => exact ⟨.ret, s1, ⟨ω1, hag1, by unfold acode; rw [h3]⟩, rfl, E1, q1, q2, q3⟩
      | cond cc y z =>
        unfold compileCode at hc
        cases h0 : opd G cc with
        | none => simp [h0] at hc
        | some oc =>
          cases h1 : compileCode P G nt y with
          | none => simp [h0, h1] at hc
          | some ay =>
            cases h2 : compileCode P G nt z with
            | none => simp [h0, h1, h2] at hc
            | some az =>
              simp [h0, h1, h2] at hc
              subst hc
              have hv := opd_VR hr.env h0
              cases he : s.1.ev oc with
              | bool b =>
                rw [he] at hv
                cases b with
                | true =>
                  have run : ∀ ω', acode FT (CO ω') (n + 1) (.cond oc ay az) s = acode FT (CO ω') n ay s := fun ω' => by conv => lhs; unfold acode; rw [he]
                  refine wpIn_cond_true hv (wpIn_mono (ih n (by omega) hC y ay E s a w ω h1 (plain_cond1 hp) hr fun ω' hag => ?_) fun e a2 w2 k => Left.from_ (Ext.refl _ _) (Nat.le_refl _) ?_ k)
                  · rw [← run]; exact hf ω' hag
                  · rintro x s' ⟨ω', hag, h⟩; exact ⟨ω', hag, by rw [run]; exact h⟩
                | false =>
                  have run : ∀ ω', acode FT (CO ω') (n + 1) (.cond oc ay az) s = acode FT (CO ω') n az s := fun ω' => by conv => lhs; unfold acode; rw [he]
                  refine wpIn_cond_false hv (wpIn_mono (ih n (by omega) hC z az E s a w ω h2 (plain_cond2 hp) hr fun ω' hag => ?_) fun e a2 w2 k => Left.from_ (Ext.refl _ _) (Nat.le_refl _) ?_ k)
                  · rw [← run]; exact hf ω' hag
                  · rintro x s' ⟨ω', hag, h⟩; exact ⟨ω', hag, by rw [run]; exact h⟩
              | _ => obtain ⟨x, s', h⟩ := hf ω .refl; unfold acode at h; rw [he] at h; simp at h
      | block id y =>
        unfold compileCode at hc
        cases h1 : compileCode P G nt y with
        | none => simp [h1] at hc
        | some ay =>
          simp [h1] at hc
          subst hc
          have fy : ∀ ω', Agree ω ω' s.2.next → ∃ x s', acode FT (CO ω') n ay s = some (x, s') := by
            intro ω' hag
            obtain ⟨x, s', h⟩ := hf ω' hag
            unfold acode at h
            cases h3 : acode FT (CO ω') n ay s with
            | none => simp [h3] at h
            | some p => exact ⟨p.1, p.2, rfl⟩
          have i1 := ih n (by omega) hC y ay E s a w ω h1 (plain_block hp) hr fy
          refine wpIn_block (wpIn_mono i1 ?_)
          rintro e a1 w1 ⟨x1, s1, ⟨ω1, hag1, h3⟩, rfl, E1, q1, q2, q3⟩
          cases x1 with
          | normal => exact ⟨.normal, s1, ⟨ω1, hag1, by unfold acode; rw [h3]⟩, rfl, E1, q1, q2, q3⟩
          | exit i =>
            show (if i = id then Left G B w0 nt E s _ Exit.normal a1 w1 else Left G B w0 nt E s _ (Exit.exit i) a1 w1)
            by_cases hi : i = id
            · rw [if_pos hi]
              exact ⟨.normal, s1, ⟨ω1, hag1, by unfold acode; rw [h3]; simp only; rw [if_pos hi]⟩, rfl, E1, q1, q2, q3⟩
            · rw [if_neg hi]
              exact ⟨.exit i, s1, ⟨ω1, hag1, by unfold acode; rw [h3]; simp only; rw [if_neg hi]⟩, rfl, E1, q1, q2, q3⟩
          | ret => exact ⟨.ret, s1, ⟨ω1, hag1, by unfold acode; rw [h3]⟩, rfl, E1, q1, q2, q3⟩
      | loop y =>
        unfold compileCode at hc
        cases h1 : compileCode P G nt y with
        | none => simp [h1] at hc
        | some ay =>
          simp [h1] at hc
          subst hc
          refine wpIn_loop_n (fun m a' w' => m ≤ n + 1 ∧ ∃ E1 s1 ω1, (∀ ω2, Agree ω1 ω2 s1.2.next → Agree ω ω2 s.2.next ∧ (∃ x s', acode FT (CO ω2) m (.loop ay) s1 = some (x, s')) ∧ ∀ x s', acode FT (CO ω2) m (.loop ay) s1 = some (x, s') → acode FT (CO ω2) (n + 1) (.loop ay) s = some (x, s')) ∧ Ext s.2.next E E1 ∧ s.2.next ≤ s1.2.next ∧ StR G B w0 nt E1 s1 a' w') ?_ (n := n + 1) ⟨Nat.le_refl _, E, s, ω, fun ω2 hag => ⟨hag, hf ω2 hag, fun x s' h => h⟩, Ext.refl _ _, Nat.le_refl _, hr⟩
          rintro m a1 w1 ⟨hmn, E1, s1, ω1, hm1, q1, q2, q3⟩
          cases m with
          | zero => obtain ⟨_, ⟨x, s', h⟩, _⟩ := hm1 ω1 .refl; simp [acode] at h
          | succ m =>
            have fy : ∀ ω', Agree ω1 ω' s1.2.next → ∃ x s', acode FT (CO ω') m ay s1 = some (x, s') := by
              intro ω' hag
              obtain ⟨_, ⟨x, s', h⟩, _⟩ := hm1 ω' hag
              unfold acode at h
              cases h3 : acode FT (CO ω') m ay s1 with
              | none => simp [h3] at h
              | some p => exact ⟨p.1, p.2, rfl⟩
            have i1 := ih m (by omega) hC y ay E1 s1 a1 w1 ω1 h1 (plain_loop hp) q3 fy
            refine wpIn_mono i1 ?_
            rintro e a2 w2 ⟨x2, s2, ⟨ω2, hag2, h3⟩, rfl, E2, r1, r2, r3⟩
            have fin : ∀ (z : AExit), x2 = z → z ≠ .normal → Left G B w0 nt E s (fun x s' => ∃ ω', Agree ω ω' s.2.next ∧ acode FT (CO ω') (n + 1) (.loop ay) s = some (x, s')) (toExit z) a2 w2 := by
              intro z hz hne
              subst hz
              obtain ⟨p1, _, p3⟩ := hm1 ω2 hag2
              refine ⟨x2, s2, ⟨ω2, p1, p3 _ _ ?_⟩, rfl, E2, q1.trans r1 q2, Nat.le_trans q2 r2, r3⟩
              unfold acode
              rw [h3]
              cases x2 <;> first
                | rfl
                | exact absurd rfl hne
            cases x2 with
            | normal =>
              refine ⟨m, by omega, by omega, E2, s2, ω2, fun ω3 hag3 => ?_, q1.trans r1 q2, Nat.le_trans q2 r2, r3⟩
              have hag13 : Agree ω1 ω3 s1.2.next := hag2.trans (hag3.le r2)
              obtain ⟨p1, ⟨x, s', p2⟩, p3⟩ := hm1 ω3 hag13
              have p4 := (acode_pr (hC.pr ω2 ω3 s2.2.next hag3) h3).2 (Nat.le_refl _)
              have run : acode FT (CO ω3) (m + 1) (.loop ay) s1 = acode FT (CO ω3) m (.loop ay) s2 := by conv => lhs; unfold acode; rw [p4]
              refine ⟨p1, ⟨x, s', by rw [← run]; exact p2⟩, fun x s' h => p3 x s' (by rw [run]; exact h)⟩
            | exit i => exact fin _ rfl (by simp)
            | ret => exact fin _ rfl (by simp)
      | exit id =>
        simp [compileCode] at hc; subst hc
        exact wpIn_exit ⟨.exit id, s, ⟨ω, .refl, rfl⟩, rfl, E, Ext.refl _ _, Nat.le_refl _, hr⟩
      | ret =>
        simp [compileCode] at hc; subst hc
        exact wpIn_ret ⟨.ret, s, ⟨ω, .refl, rfl⟩, rfl, E, Ext.refl _ _, Nat.le_refl _, hr⟩
      | rangeFunc g ps asg body =>
        have hro : ro = none := by
          rcases hp with h | h
          · exact h
          · simp [plainC] at h
        subst hro
        have nofail : ac ≠ failC := by
          rintro rfl
          obtain ⟨x, s', h⟩ := hf ω .refl
          rw [failC_none] at h; cases h
        unfold compileCode at hc
        cases hg : opd G g with
        | none => simp [hg] at hc
        | some g' =>
          cases ha : compileCode P G nt asg with
          | none => simp [hg, ha] at hc
          | some a' =>
            cases hb : compileCode P G nt body with
            | none => simp [hg, ha, hb] at hc
            | some b' =>
              simp only [hg, ha, hb] at hc
              split at hc
              case isFalse => exact absurd (Option.some.inj hc).symm nofail
              rename_i hok
              simp only [Option.some.injEq] at hc
              subst hc
              simp only [Bool.and_eq_true, List.all_eq_true, decide_eq_true_eq] at hok
              obtain ⟨⟨pa, pb⟩, pps⟩ := hok
              have hv := opd_VR hr.env hg
              cases he : s.1.ev g' with
              | fn f0 first caps =>
                rw [he] at hv
                obtain ⟨f', us, ws, rfl, g2, g3, g4⟩ := hv
                have hF : ∃ ir, FT (G f') = some ir := by
                  obtain ⟨x, s', h⟩ := hf ω .refl
                  cases hF : FT (G f') with
                  | none => unfold acode at h; simp [he, hF] at h
                  | some ir => exact ⟨ir, rfl⟩
                obtain ⟨ir, hF⟩ := hF
                obtain ⟨fn, c', hfn, hbd, hname, hres, hcc, hcap⟩ := entry_shape hFO hF
                have each : ∀ ω', Agree ω ω' s.2.next → ∃ y s1 vs, acode FT (yldC (CO ω') (s.2.next + 1) (roundF (acode FT (CO ω') n a') (acode FT (CO ω') n b') ps.toList s.1)) n ir.body (env0 (first ++ [AV.yld (s.2.next + 1)] ++ caps), s.2.newLoop) = some (y, s1) ∧ (y = .normal ∨ y = .ret) ∧ s1.1 dfrT = .undef ∧ ares s1.1 s1.2 ir.results = some vs ∧ acode FT (CO ω') (n + 1) (.rngf g' ps.toList a' b') s = some (.normal, (upd s.1 dfrT (pushM (s.1 dfrT) s.2.next), s1.2)) := by
                  intro ω' hag
                  obtain ⟨x, t, h⟩ := hf ω' hag
                  have h2 := h
                  unfold acode at h2
                  simp only [he, hF] at h2
                  obtain ⟨y, s1, vs, k1, k2, k3, k4, rfl, rfl⟩ := iterEnd_some h2
                  exact ⟨y, s1, vs, k1, k2, k3, k4, h⟩
                refine wpIn_rangeFunc fun fid _ => ?_
                obtain ⟨E1, e1, e2, e3, e4⟩ := hr.heap.enter (.loop { state := .ready, pending := none, fn := fid, tmps := a.tmps, params := ps, assign := asg, body := body, defers := w.heap.size })
                have hBl : B (w.heap.size + 1) = none := by
                  cases hB : B (w.heap.size + 1) with
                  | none => rfl
                  | some o => have := hr.heap.size (w.heap.size + 1) (by rw [hB]; simp); omega
                have hl0 : w0.heap.size ≤ w.heap.size + 1 := Nat.le_succ_of_le hr.heap.below.size
                have hn0 : w0.n ≤ s.2.next + 2 := Nat.le_trans hr.heap.fix.1 (by omega)
                have hE0 : Ext w0.n w0.E E1 := hr.heap.fix.2.trans e2 hr.heap.fix.1
                have hCY := yldC_ok hC hy (A := fun ω => acode FT (CO ω) n a') (Bd := fun ω => acode FT (CO ω) n b') (asg := asg) (body := body) (nt := nt) (l := w.heap.size + 1) (y := s.2.next + 1) (n1 := s.2.next + 2) (E1 := E1) (ps := ps) (tmps := a.tmps) (e0 := s.1) (fid := fid) (d := w.heap.size) hBl hl0 (by omega) e4 hn0 hE0 hr.cap hr.nt pps
                  (fun i hi => (hr.env i hi).mono (by omega) e2)
                  (fun S hS E s a w ω st hf => ih n (by omega) (hC.sub hS) asg a' E s a w ω ha (.inr pa) st hf)
                  (fun S hS E s a w ω st hf => ih n (by omega) (hC.sub hS) body b' E s a w ω hb (.inr pb) st hf)
                  (fun ω ω' N hag s x t h => acode_pr (hC.pr ω ω' N hag) h) (fun ω ω' N hag s x t h => acode_pr (hC.pr ω ω' N hag) h)
                have hargs : (us ++ #[Value.func (.yield (w.heap.size + 1)) #[] #[]]) ++ ws = (us.toList ++ [Value.func (.yield (w.heap.size + 1)) #[] #[]] ++ ws.toList).toArray := by apply Array.ext'; simp
                obtain ⟨w1, hw1⟩ : ∃ w1, (w.alloc (.deferred (some []))).alloc (.loop { state := .ready, pending := none, fn := fid, tmps := a.tmps, params := ps, assign := asg, body := body, defers := w.heap.size }) = w1 := ⟨_, rfl⟩
                rw [hw1] at e1
                refine ⟨w.heap.size + 1, [{ target := .collected w.heap.size, args := #[] }], w1, { target := .fn (.func f') ws, args := us ++ #[Value.func (.yield (w.heap.size + 1)) #[] #[]] }, w1, f', (us ++ #[Value.func (.yield (w.heap.size + 1)) #[] #[]]) ++ ws, w1, by rw [← hw1]; exact run_enterLoop_outer fid a.tmps ps asg body, ?_, fun _ _ => trivial, ?_, (fun h => by cases h), ?_⟩
                · show (resolve a.eval (rangeCall g (w.heap.size + 1)) 0).run P w1 = _
                  simp only [resolve, rangeCall, g2, Deferred.ofValue, Sem.run_pure]
                  simp [Act.eval]
                · simp [invoke, callFunc, hfn, hbd, hname]
                · rw [hargs]
                  have hvs : VRs G s.2.newLoop.next E1 (first ++ [AV.yld (s.2.next + 1)] ++ caps) (us.toList ++ [Value.func (.yield (w.heap.size + 1)) #[] #[]] ++ ws.toList) := by
                    refine ((g3.mono (show s.2.next ≤ s.2.newLoop.next by show s.2.next ≤ s.2.next + 2; omega) e2).append (VRs.single (a := AV.yld (s.2.next + 1)) (u := Value.func (.yield (w.heap.size + 1)) #[] #[]) ⟨?_, ?_⟩)).append (g4.mono (show s.2.next ≤ s.2.newLoop.next by show s.2.next ≤ s.2.next + 2; omega) e2)
                    · show s.2.next + 1 < s.2.next + 2; omega
                    · rw [e4]
                  refine callsIn_of_wp hfn hbd trivial (wpIn_mono (ih n (by omega) hCY c' ir.body E1 (env0 (first ++ [AV.yld (s.2.next + 1)] ++ caps), s.2.newLoop) _ _ ω hcc (.inl rfl) (entry_state hcap e1 hvs) (fun ω' hag => ?_)) ?_)
                  · obtain ⟨y, s1, _, k1, _⟩ := each ω' (hag.le (show s.2.next ≤ s.2.next + 2 by omega))
                    exact ⟨y, s1, k1⟩
                  · rintro e a1 w4 ⟨x, s1, ⟨ω1, hag1, h1⟩, rfl, E5, q1, q2, q3⟩
                    have hag0 : Agree ω ω1 s.2.next := hag1.le (show s.2.next ≤ s.2.next + 2 by omega)
                    obtain ⟨y, s1', vs, k1, k2, k3, k4, k5⟩ := each ω1 hag0
                    have k1' := h1.symm.trans k1
                    simp only [Option.some.injEq, Prod.mk.injEq] at k1'
                    obtain ⟨rfl, rfl⟩ := k1'
                    have q1 : Ext (s.2.next + 2) E1 E5 := q1
                    have q2 : s.2.next + 2 ≤ s1.2.next := q2
                    have hds : a1.defers = [] := by
                      have := q3.defers
                      rw [k3] at this
                      exact this
                    obtain ⟨u', r1, r2⟩ := results_sound hres q3.heap q3.env k4
                    have hat := q3.heap.below.block (w.heap.size + 1) _ (by unfold Prot.put; rw [if_pos rfl])
                    have hleft := (q3.heap.unpin hn0 hE0).leave hBl hl0 (by intro c e f; simp) (.loop { state := .exhausted, pending := none, fn := fid, tmps := a.tmps, params := ps, assign := asg, body := body, defers := w.heap.size })
                    have x5 : Ext s.2.next E E5 := e2.trans (fun b hb => q1 b (by omega)) (Nat.le_refl _)
                    have n5 : s.2.next ≤ s1.2.next := by omega
                    have fin : bodyPost P fn (rangePost (FR none) 0 P (w.heap.size + 1) (Left G B w0 nt E s fun x s' => ∃ ω', Agree ω ω' s.2.next ∧ acode FT (CO ω') (n + 1) (.rngf g' ps.toList a' b') s = some (x, s')) { a with defers := [{ target := .collected w.heap.size, args := #[] }] ++ a.defers }) .normal a1 w4 := by
                      refine ⟨hds, u', r1, none, _, run_endLoop hat (by simp), ?_⟩
                      refine ⟨.normal, _, ⟨ω1, hag0, k5⟩, rfl, E5, x5, n5, ⟨fun i hi => ?_, hleft, hr.cap, hr.nt, ?_⟩⟩
                      · show VR G s1.2.next E5 ((upd s.1 dfrT (pushM (s.1 dfrT) s.2.next)) i) _
                        rw [upd_ne _ _ _ hi]; exact (hr.env i hi).mono n5 x5
                      · show DefR G s1.2.next E5 ((upd s.1 dfrT (pushM (s.1 dfrT) s.2.next)) dfrT) _
                        rw [upd_same]
                        have hd := hr.defers.mono n5 x5
                        have mark : VR G s1.2.next E5 (.tup [.yld s.2.next]) (dval { target := .collected w.heap.size, args := #[] }) := by
                          refine ⟨_, rfl, VRs.single ⟨by omega, ?_⟩⟩
                          rw [q1 s.2.next (by omega), e3]
                        cases hs0 : s.1 dfrT <;> rw [hs0] at hd <;> simp only [DefR] at hd
                        · show VRs G s1.2.next E5 [_] (List.map dval (_ :: a.defers))
                          rw [hd]
                          exact VRs.single mark
                        · exact ⟨_, _, rfl, mark, hd⟩
                    rcases k2 with rfl | rfl
                    · exact fin
                    · exact fin
              | _ => obtain ⟨x, s', h⟩ := hf ω .refl; unfold acode at h; rw [he] at h; simp at h
      | _ => simp [compileCode] at hc; obtain ⟨x, s', h⟩ := hf ω .refl; rw [← hc, failC_none] at h; cases h
/-! ### Calls -/
/-- How a table of functions, and of those that are told, stands to a program. -/
structure Link (P : Program) (G : Nat → Nat) (B : Prot) (w0 : Base) (F : Nat → Option AFunc) (prims : Nat → Option (List AV → AHeap → Option (AV × AHeap))) : Prop where
  mixed : P.follows .mixedOrders = true
  fn : ∀ f ir, F (G f) = some ir → ∃ fn, P.funcs[f]? = some fn ∧ compileFn P G fn = some ir
  prim : ∀ f p, prims (G f) = some p → ∀ args H v H', p args H = some (v, H') → ∀ S, Sub B S → ∀ E w us, HRel G S w0 E H w → VRs G H.next E args us → Back P G S w0 E H w (callFunc f us.toArray) v H'
  out : ∀ f, G f ≠ nxtF ∧ G f ≠ rngF
  noF : F nxtF = none ∧ F rngF = none
  up : PrimsUp prims
  outY : ∀ f, G f ≠ yldF
  noY : F yldF = none ∧ prims yldF = none
/-- A function's body at its entry. -/
theorem entry_sound {F : Nat → Option AFunc} {prims : Nat → Option (List AV → AHeap → Option (AV × AHeap))} (L : Link P G B w0 F prims) {f : Nat} {ir : AFunc} (hF : F (G f) = some ir) :
    ∃ fn c, P.funcs[f]? = some fn ∧ fn.body = some c ∧ fn.name ≠ "runtime.NumGoroutine" ∧ mapO (compileRes P) fn.results.toList = some ir.results ∧
      ∀ {C : Ora → CallF} {S : Prot}, CallOk P G S w0 C → ∀ {n : Nat} {args : List AV} {H : AHeap} {ω : Ora} {E : Nat → Ent} {w : World} {us : List Value}, HRel G S w0 E H w → VRs G H.next E args us → (∀ ω', Agree ω ω' H.next → ∃ x s, acode F (C ω') n ir.body (env0 args, H) = some (x, s)) →
        c.wpIn (FR none) 0 P (Left G S w0 fn.ntmps E (env0 args, H) fun x s => ∃ ω', Agree ω ω' H.next ∧ acode F (C ω') n ir.body (env0 args, H) = some (x, s)) { tmps := us.toArray ++ Array.replicate (fn.ntmps - us.toArray.size) Go.undef, defers := [] } w := by
  obtain ⟨fn, c, h1, h2, h3, h4, h5, h6⟩ := entry_shape L.fn hF
  refine ⟨fn, c, h1, h2, h3, h4, ?_⟩
  intro C S hC n args H ω E w us hr hv h7
  exact acode_sound L.mixed L.fn L.outY n hC c ir.body E (env0 args, H) _ w ω h5 (.inl rfl) (entry_state h6 hr hv) h7
/-- A deferred call, in the model. -/
theorem dcall_sound {F : Nat → Option AFunc} {prims : Nat → Option (List AV → AHeap → Option (AV × AHeap))} (L : Link P G B w0 F prims) {C : Ora → CallF} {S : Prot} (hC : CallOk P G S w0 C) {n f : Nat} {args : List AV} {H : AHeap} {ω : Ora} (h : ∀ ω', Agree ω ω' H.next → ∃ H', dcall F (C ω') n (G f) args H = some H') {E : Nat → Ent} {w : World} {us : List Value} (hr : HRel G S w0 E H w) (hv : VRs G H.next E args us) :
    (callFunc f us.toArray).run P w = .ok (.enter f us.toArray) w ∧ ∀ u, CallsDIn (FR none) 0 P f us.toArray u w fun e u' w' => u' = u ∧ ∃ ω' H' v E', Agree ω ω' H.next ∧ dcall F (C ω') n (G f) args H = some H' ∧ e = .returned v ∧ H.next ≤ H'.next ∧ Ext H.next E E' ∧ HRel G S w0 E' H' w' := by
  have hF : ∃ ir, F (G f) = some ir := by
    obtain ⟨H', h0⟩ := h ω .refl
    unfold dcall at h0
    cases hF : F (G f) with
    | none => simp [hF] at h0
    | some ir => exact ⟨ir, rfl⟩
  obtain ⟨ir, hF⟩ := hF
  obtain ⟨fn, c, hfn, hb, hname, h2, hbody⟩ := entry_sound L hF
  -- what each oracle's run is
  have body : ∀ ω', Agree ω ω' H.next → ∃ x s vs, acode F (C ω') n ir.body (env0 args, H) = some (x, s) ∧ (x = .normal ∨ x = .ret) ∧ s.1 dfrT = .undef ∧ ares s.1 s.2 ir.results = some vs ∧ dcall F (C ω') n (G f) args H = some s.2 := by
    intro ω' hag
    obtain ⟨H', h0⟩ := h ω' hag
    have h1 := h0
    unfold dcall at h0
    simp only [hF] at h0
    cases h3 : acode F (C ω') n ir.body (fun i => if i = dfrT then .undef else args.getD i .undef, H) with
    | none => simp only [h3] at h0; cases h0
    | some p =>
      obtain ⟨x, s⟩ := p
      simp only [h3] at h0
      have key : (match s.1 dfrT with | .undef => (match ares s.1 s.2 ir.results with | some _ => some s.2 | none => none) | _ => none) = some H' → s.1 dfrT = .undef ∧ ∃ vs, ares s.1 s.2 ir.results = some vs ∧ H' = s.2 := by
        intro hk
        cases hd : s.1 dfrT <;> rw [hd] at hk <;> simp only [reduceCtorEq] at hk
        refine ⟨rfl, ?_⟩
        cases h4 : ares s.1 s.2 ir.results with
        | none => simp [h4] at hk
        | some vs => simp [h4] at hk; exact ⟨vs, rfl, hk.symm⟩
      cases x with
      | normal => obtain ⟨k1, vs, k2, k3⟩ := key h0; subst k3; exact ⟨_, s, vs, h3, .inl rfl, k1, k2, h1⟩
      | ret => obtain ⟨k1, vs, k2, k3⟩ := key h0; subst k3; exact ⟨_, s, vs, h3, .inr rfl, k1, k2, h1⟩
      | exit id => simp at h0
  refine ⟨by simp [callFunc, hfn, hb, hname], fun u => ?_⟩
  refine callsDIn_of_wp hfn hb trivial (R := fun e w' => ∃ ω' H' v E', Agree ω ω' H.next ∧ dcall F (C ω') n (G f) args H = some H' ∧ e = .returned v ∧ H.next ≤ H'.next ∧ Ext H.next E E' ∧ HRel G S w0 E' H' w') ?_
  refine wpIn_mono (hbody hC (ω := ω) hr hv fun ω' hag => by obtain ⟨x, s, vs, k, _⟩ := body ω' hag; exact ⟨x, s, k⟩) ?_
  rintro e a1 w1 ⟨x, s, ⟨ω1, hag, h3⟩, rfl, E1, q1, q2, q3⟩
  obtain ⟨x', s', vs, k1, hx, hd, h4, hdc⟩ := body ω1 hag
  rw [h3] at k1
  simp only [Option.some.injEq, Prod.mk.injEq] at k1
  obtain ⟨rfl, rfl⟩ := k1
  have hds : a1.defers = [] := by
    have := q3.defers
    rw [hd] at this
    exact this
  obtain ⟨u', r1, r2⟩ := results_sound h2 q3.heap q3.env h4
  have fin : a1.defers = [] ∧ ∃ v', (results fn a1.tmps).run P w1 = .ok v' w1 ∧ (fun (e : Ending) (w' : World) => ∃ ω' H' v E', Agree ω ω' H.next ∧ dcall F (C ω') n (G f) args H = some H' ∧ e = .returned v ∧ H.next ≤ H'.next ∧ Ext H.next E E' ∧ HRel G S w0 E' H' w') (.returned v') w1 :=
    ⟨hds, u', r1, ω1, s.2, u', E1, hag, hdc, rfl, q2, q1, q3.heap⟩
  rcases hx with rfl | rfl
  · exact fin
  · exact fin
/-- The deferred calls, in the model. -/
theorem rundL_sound {F : Nat → Option AFunc} {prims : Nat → Option (List AV → AHeap → Option (AV × AHeap))} (L : Link P G B w0 F prims) {C : Ora → CallF} {S : Prot} (hC : CallOk P G S w0 C) {n : Nat} {fn : Func} {tmps : Array Value} {R : Ending → World → Prop} : ∀ {ds : List AV} {H : AHeap} {ω : Ora} {E : Nat → Ent} {w : World} {dfs : List Deferred}, (∀ ω', Agree ω ω' H.next → ∃ H', rundL (dcall F (C ω') n) ds H = some H') → HRel G S w0 E H w → VRs G H.next E ds (dfs.map dval) →
    (∀ ω' H' E' w', Agree ω ω' H.next → rundL (dcall F (C ω') n) ds H = some H' → H.next ≤ H'.next → Ext H.next E E' → HRel G S w0 E' H' w' → ∃ v, (results fn tmps).run P w' = .ok v w' ∧ R (.returned v) w') → LeavesInM (FR none) 0 P fn tmps R dfs .returning w
  | [], H, ω, E, w, dfs, h, hr, hv, hK => by
    have : dfs = [] := by
      have := hv.length
      simpa using this
    subst this
    obtain ⟨v, k1, k2⟩ := hK ω H E w .refl rfl (Nat.le_refl _) (Ext.refl _ _) hr
    exact ⟨v, k1, k2⟩
  | a :: ds, H, ω, E, w, dfs, h, hr, hv, hK => by
    have isfn : (∃ fg as caps, a = .fn fg as caps) ∨ ∃ b, a = .tup [.yld b] ∧ H.blk b = some (.dq true) := by
      obtain ⟨H', h0⟩ := h ω .refl
      rcases rundL_cons h0 with ⟨f, as, caps, _, e, _⟩ | ⟨b, e, h1, _⟩
      · exact .inl ⟨f, as, caps, e⟩
      · exact .inr ⟨b, e, h1⟩
    rcases isfn with ⟨fg, as, caps, rfl⟩ | ⟨b, rfl, hbk⟩
    case inr =>
      obtain ⟨u, r, e1, v1, v2⟩ := hv
      cases dfs with
      | nil => simp at e1
      | cons d dfs =>
        simp only [List.map_cons, List.cons.injEq] at e1
        obtain ⟨rfl, rfl⟩ := e1
        obtain ⟨us, g2, g3⟩ := v1
        obtain ⟨tgt, dargs⟩ := d
        have ht : tgt = .collected (E b).g := by
          obtain ⟨u1, r1, p1, p2, p3⟩ := g3
          obtain rfl : r1 = [] := p3
          have p2 := p2.2
          subst p2
          have hus : us = #[Value.func (.yield (E b).g) #[] #[]] := Array.ext' p1
          subst hus
          unfold dval at g2
          cases tgt <;> simp at g2
          rw [g2]
        subst ht
        obtain ⟨t1, t2⟩ := hr.take (P := P) hbk
        have run : ∀ ω', rundL (dcall F (C ω') n) (.tup [.yld b] :: ds) H = rundL (dcall F (C ω') n) ds (H.setObj b (.dq false)) := fun ω' => by simp only [rundL]; rw [hbk]
        refine ⟨by simp, .inl ⟨_, _, rfl, t1, ?_⟩⟩
        exact rundL_sound (n := n) L hC (ω := ω) (H := H.setObj b (.dq false)) (fun ω' hag => by rw [← run]; exact h ω' hag) t2 v2 (fun ω' H' E' w' hag hrd p1 p2 p3 => hK ω' H' E' w' hag (by rw [run]; exact hrd) p1 p2 p3)
    have h1 : ∀ ω', Agree ω ω' H.next → ∃ H1, dcall F (C ω') n fg (as ++ caps) H = some H1 := by
      intro ω' hag
      obtain ⟨H', h0⟩ := h ω' hag
      simp only [rundL] at h0
      cases h1 : dcall F (C ω') n fg (as ++ caps) H with
      | none => simp [h1] at h0
      | some H1 => exact ⟨H1, rfl⟩
    obtain ⟨u, r, e1, v1, v2⟩ := hv
    cases dfs with
    | nil => simp at e1
    | cons d dfs =>
      simp only [List.map_cons, List.cons.injEq] at e1
      obtain ⟨rfl, rfl⟩ := e1
      obtain ⟨f', us, ws, g1, g2, g3, g4⟩ := v1
      subst g1
      obtain ⟨tgt, dargs⟩ := d
      have ht : tgt = .fn (.func f') ws ∧ dargs = us := by
        unfold dval at g2
        cases tgt <;> simp at g2
        exact ⟨by rw [g2.1, g2.2.2], g2.2.1⟩
      obtain ⟨rfl, rfl⟩ := ht
      obtain ⟨k1, k2⟩ := dcall_sound L hC h1 hr (g3.append g4)
      have hargs : (dargs.toList ++ ws.toList).toArray = dargs ++ ws := by apply Array.ext'; simp
      rw [hargs] at k1 k2
      refine ⟨by simp, .inr ⟨(fun h => by cases h), _, _, f', dargs ++ ws, rfl, by simpa [invoke] using k1, fun _ _ => trivial, ?_⟩⟩
      refine CallsDIn.mono (k2 .returning) ?_
      rintro e u' w' ⟨rfl, ω1, H1, v, E1, hag1, hd1, rfl, q2, q3, q4⟩
      show LeavesInM (FR none) 0 P fn tmps R dfs (settle .returning) w'
      have next : ∀ ω2, Agree ω1 ω2 H1.next → Agree ω ω2 H.next ∧ rundL (dcall F (C ω2) n) (.fn (G f') as caps :: ds) H = rundL (dcall F (C ω2) n) ds H1 := by
        intro ω2 hag2
        have := (dcall_pr (hC.pr ω1 ω2 H1.next hag2) hd1).2 (Nat.le_refl _)
        exact ⟨hag1.trans (hag2.le q2), by simp only [rundL, this]⟩
      refine rundL_sound (n := n) L hC (ω := ω1) (fun ω2 hag2 => ?_) q4 (VRs.mono q2 q3 v2) (fun ω2 H' E' w2 hag2 hrd p1 p2 p3 => ?_)
      · obtain ⟨p1, p2⟩ := next ω2 hag2
        rw [← p2]; exact h ω2 p1
      · obtain ⟨p4, p5⟩ := next ω2 hag2
        exact hK ω2 H' E' w2 p4 (by rw [p5]; exact hrd) (Nat.le_trans q2 p1) (q3.trans p2 q2) p3
theorem acall_sound {F : Nat → Option AFunc} {prims : Nat → Option (List AV → AHeap → Option (AV × AHeap))} (L : Link P G B w0 F prims) : ∀ n, CallOk P G B w0 fun ω => acall F (oprims ω prims) n
  | 0 => ⟨fun f args H ω h => by obtain ⟨v, H', h⟩ := h ω .refl; simp [acall] at h, fun b args H ω h => by (obtain ⟨v, H', h⟩ := h ω .refl; simp [acall] at h), fun ω args H v H' h => by simp [acall] at h, fun ω args H v H' h => by simp [acall] at h, fun ω ω' N h => acall_pr L.up L.noF.1 h 0⟩
  | n + 1 => by
    refine ⟨?_, ?_, ?_, ?_, fun ω ω' N h => acall_pr L.up L.noF.1 h (n + 1)⟩
    rotate_left
    · intro b args H ω h
      obtain ⟨v, H', h0⟩ := h ω .refl
      have e : oprims ω prims yldF = none := by simp [oprims, yldF, nxtF, rngF]; exact L.noY.2
      unfold acall at h0
      rw [e] at h0
      simp [told, L.noY.1] at h0
    rotate_right
    · intro f args H ω h S hS E w us hr hv
      obtain ⟨o1, o2⟩ := L.out f
      have same : ∀ ω', oprims ω' prims (G f) = prims (G f) := fun ω' => by simp [oprims, o1, o2]
      cases ht : told (prims (G f)) args H with
      | some r =>
        obtain ⟨v, H'⟩ := r
        have hrun : acall F (oprims ω prims) (n + 1) (G f) args H = some (v, H') := by
          unfold acall; rw [same, ht]
        unfold told at ht
        cases hp : prims (G f) with
        | none => rw [hp] at ht; cases ht
        | some p =>
          rw [hp] at ht
          exact (L.prim f p hp args H v H' ht S hS E w us hr hv).one ⟨ω, .refl, hrun⟩
      | none =>
        have ht' : ∀ ω', told (oprims ω' prims (G f)) args H = none := fun ω' => by rw [same]; exact ht
        have hF : ∃ ir, F (G f) = some ir := by
          obtain ⟨v, H', h0⟩ := h ω .refl
          cases hF : F (G f) with
          | none => unfold acall at h0; rw [ht' ω] at h0; simp [hF] at h0
          | some ir => exact ⟨ir, rfl⟩
        obtain ⟨ir, hF⟩ := hF
        obtain ⟨fn, c, hfn, hb, hname, h2, hbody⟩ := entry_sound L hF
        have hC := (acall_sound L n).sub hS
        have body : ∀ ω', Agree ω ω' H.next → ∃ x s H' vs, acode F (acall F (oprims ω' prims) n) (n + 1) ir.body (env0 args, H) = some (x, s) ∧ (x = .normal ∨ x = .ret) ∧ rund (dcall F (acall F (oprims ω' prims) n) n) (s.1 dfrT) s.2 = some H' ∧ ares s.1 H' ir.results = some vs ∧ acall F (oprims ω' prims) (n + 1) (G f) args H = some (one vs, H') := by
          intro ω' hag
          obtain ⟨v, H', h0⟩ := h ω' hag
          have h00 := h0
          rw [acall_eq (ht' ω') hF] at h0
          cases h3 : acode F (acall F (oprims ω' prims) n) (n + 1) ir.body (env0 args, H) with
          | none => simp only [h3] at h0; cases h0
          | some p =>
            obtain ⟨x, s⟩ := p
            simp only [h3] at h0
            have key : behind (dcall F (acall F (oprims ω' prims) n) n) ir.results s = some (v, H') → ∃ vs, rund (dcall F (acall F (oprims ω' prims) n) n) (s.1 dfrT) s.2 = some H' ∧ ares s.1 H' ir.results = some vs ∧ v = one vs := by
              intro hk
              unfold behind at hk
              cases h5 : rund (dcall F (acall F (oprims ω' prims) n) n) (s.1 dfrT) s.2 with
              | none => simp [h5] at hk
              | some H2 =>
                simp only [h5] at hk
                cases h4 : ares s.1 H2 ir.results with
                | none => simp [h4] at hk
                | some vs => simp [h4] at hk; obtain ⟨rfl, rfl⟩ := hk; exact ⟨vs, rfl, h4, rfl⟩
            cases x with
            | normal => obtain ⟨vs, k1, k2, rfl⟩ := key h0; exact ⟨_, s, H', vs, rfl, .inl rfl, k1, k2, h00⟩
            | ret => obtain ⟨vs, k1, k2, rfl⟩ := key h0; exact ⟨_, s, H', vs, rfl, .inr rfl, k1, k2, h00⟩
            | exit id => simp at h0
        right
        refine ⟨f, us.toArray, by simp [callFunc, hfn, hb, hname], ?_⟩
        refine (callsIn_wide (n := 0)).1 (callsIn_of_wp_marks (F := FR none) hfn hb trivial ?_)
        refine wpIn_mono (hbody hC (ω := ω) hr hv fun ω' hag => by obtain ⟨x, s, _, _, k, _⟩ := body ω' hag; exact ⟨x, s, k⟩) ?_
        rintro e a1 w1 ⟨x, s, ⟨ω1, hag1, h3⟩, rfl, E1, q1, q2, q3⟩
        have q2' : H.next ≤ s.2.next := q2
        -- behind the body, under each oracle that is the same so far
        have behind_ : ∀ ω2, Agree ω1 ω2 s.2.next → Agree ω ω2 H.next ∧ (x = .normal ∨ x = .ret) ∧ ∃ H' vs, rund (dcall F (acall F (oprims ω2 prims) n) n) (s.1 dfrT) s.2 = some H' ∧ ares s.1 H' ir.results = some vs ∧ acall F (oprims ω2 prims) (n + 1) (G f) args H = some (one vs, H') := by
          intro ω2 hag2
          have p1 : Agree ω ω2 H.next := hag1.trans (hag2.le q2')
          obtain ⟨x', s', H', vs, k1, k2, k3, k4, k5⟩ := body ω2 p1
          have := (acode_pr (hC.pr ω1 ω2 s.2.next hag2) h3).2 (Nat.le_refl _)
          rw [this] at k1
          simp only [Option.some.injEq, Prod.mk.injEq] at k1
          obtain ⟨rfl, rfl⟩ := k1
          exact ⟨p1, k2, H', vs, k3, k4, k5⟩
        have fin : LeavesInM (FR none) 0 P fn a1.tmps (fun e w' => ∃ v H' u E', (∃ ω', Agree ω ω' H.next ∧ acall F (oprims ω' prims) (n + 1) (G f) args H = some (v, H')) ∧ e = .returned u ∧ VR G H'.next E' v u ∧ H.next ≤ H'.next ∧ Ext H.next E E' ∧ HRel G S w0 E' H' w') a1.defers .returning w1 := by
          have hd := q3.defers
          have back : ∀ ω2 H' E' w', Agree ω1 ω2 s.2.next → rund (dcall F (acall F (oprims ω2 prims) n) n) (s.1 dfrT) s.2 = some H' → s.2.next ≤ H'.next → Ext s.2.next E1 E' → HRel G S w0 E' H' w' → ∃ v, (results fn a1.tmps).run P w' = .ok v w' ∧ ∃ v' H' u E'', (∃ ω', Agree ω ω' H.next ∧ acall F (oprims ω' prims) (n + 1) (G f) args H = some (v', H')) ∧ Ending.returned v = .returned u ∧ VR G H'.next E'' v' u ∧ H.next ≤ H'.next ∧ Ext H.next E E'' ∧ HRel G S w0 E'' H' w' := by
            intro ω2 H' E' w' hag2 hrd p1 p2 p3
            obtain ⟨g1, _, H2, vs, k3, k4, k5⟩ := behind_ ω2 hag2
            rw [hrd] at k3
            simp only [Option.some.injEq] at k3
            subst k3
            have henv : EnvR G H'.next E' s.1 a1 := q3.env.mono p1 p2
            obtain ⟨u, r1, r2⟩ := results_sound h2 p3 henv k4
            exact ⟨u, r1, one vs, H', u, E', ⟨ω2, g1, k5⟩, rfl, r2, Nat.le_trans q2' p1, q1.trans p2 q2', p3⟩
          obtain ⟨_, _, H0, vs0, k3, _, _⟩ := behind_ ω1 .refl
          cases hs0 : s.1 dfrT <;> rw [hs0] at k3 hd <;> simp only [rund, reduceCtorEq] at k3
          · simp only [Option.some.injEq] at k3
            have : a1.defers = [] := hd
            rw [this]
            obtain ⟨u, r1, r2⟩ := back ω1 s.2 E1 w1 .refl (by rw [hs0]; rfl) (Nat.le_refl _) (Ext.refl _ _) q3.heap
            exact ⟨u, r1, r2⟩
          · refine rundL_sound (n := n) L hC (ω := ω1) (fun ω2 hag2 => ?_) q3.heap hd (fun ω2 H' E' w' hag2 hrd => back ω2 H' E' w' hag2 (by rw [hs0]; exact hrd))
            obtain ⟨_, _, H', vs, k3, _⟩ := behind_ ω2 hag2
            rw [hs0] at k3
            exact ⟨H', k3⟩
        rcases (behind_ ω1 .refl).2.1 with rfl | rfl
        · exact fin
        · exact fin
    · intro ω args H v H' h
      unfold acall at h
      have : oprims ω prims rngF = some rngPrim := by simp [oprims, rngF, nxtF]
      rw [this] at h
      cases hr : told (some rngPrim) args H with
      | some r => rw [hr] at h; simp only [Option.some.injEq] at h; subst h; exact hr
      | none => rw [hr] at h; simp [L.noF.2] at h
    · intro ω args H v H' h
      unfold acall at h
      have : oprims ω prims nxtF = some (nxtPrim ω) := by simp [oprims]
      rw [this] at h
      cases hr : told (some (nxtPrim ω)) args H with
      | some r => rw [hr] at h; simp only [Option.some.injEq] at h; subst h; exact hr
      | none => rw [hr] at h; simp [L.noF.1] at h
end
end Go.Am
