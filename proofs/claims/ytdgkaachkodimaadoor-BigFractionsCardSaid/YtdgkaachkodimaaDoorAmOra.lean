/- Oracles: which entry of a map comes next. What the small machine does with an oracle hangs on no more of it than what it asked. -/
import Derived.Test.YtdgkaachkodimaaDoorAmComp
set_option linter.unusedVariables false
set_option linter.unusedSimpArgs false
namespace Go.Am
abbrev Ora := Nat → Bool
def Agree (ω ω' : Ora) (N : Nat) : Prop := ∀ i, i < N → ω i = ω' i
theorem Agree.refl {ω : Ora} {N : Nat} : Agree ω ω N := fun _ _ => rfl
theorem Agree.symm {ω ω' : Ora} {N : Nat} (h : Agree ω ω' N) : Agree ω' ω N := fun i hi => (h i hi).symm
theorem Agree.trans {ω ω' ω2 : Ora} {N : Nat} (h : Agree ω ω' N) (k : Agree ω' ω2 N) : Agree ω ω2 N := fun i hi => (h i hi).trans (k i hi)
theorem Agree.le {ω ω' : Ora} {N M : Nat} (h : Agree ω ω' N) (hM : M ≤ N) : Agree ω ω' M := fun i hi => h i (Nat.lt_of_lt_of_le hi hM)
/-! ### One bound for all oracles -/
def setO (ω : Ora) (N : Nat) (b : Bool) : Ora := fun i => if i = N then b else ω i
theorem fan {P : Nat → Ora → Prop} (mono : ∀ n m ω, n ≤ m → P n ω → P m ω) (h : ∀ ω, ∃ n N, ∀ ω', Agree ω ω' N → P n ω') : ∃ n, ∀ ω, P n ω := by
  apply Classical.byContradiction
  intro hno
  let Bad : Nat → Ora → Prop := fun N ω => ¬∃ n, ∀ ω', Agree ω ω' N → P n ω'
  have bad0 : ∀ ω, Bad 0 ω := fun ω ⟨n, hn⟩ => hno ⟨n, fun ω' => hn ω' fun i hi => by omega⟩
  have step : ∀ N ω, Bad N ω → ∃ b, Bad (N + 1) (setO ω N b) := by
    intro N ω hb
    apply Classical.byContradiction
    intro hs
    have good : ∀ b, ∃ n, ∀ ω', Agree (setO ω N b) ω' (N + 1) → P n ω' := by
      intro b
      apply Classical.byContradiction
      intro hn
      exact hs ⟨b, hn⟩
    obtain ⟨n1, h1⟩ := good true
    obtain ⟨n2, h2⟩ := good false
    refine hb ⟨max n1 n2, fun ω' ha => ?_⟩
    have key : Agree (setO ω N (ω' N)) ω' (N + 1) := by
      intro i hi
      unfold setO
      split
      · rename_i e; rw [e]
      · exact ha i (by omega)
    cases hv : ω' N with
    | true => rw [hv] at key; exact mono _ _ _ (Nat.le_max_left _ _) (h1 ω' key)
    | false => rw [hv] at key; exact mono _ _ _ (Nat.le_max_right _ _) (h2 ω' key)
  let f : (N : Nat) → { ω : Ora // Bad N ω } := fun N => Nat.rec ⟨fun _ => false, bad0 _⟩ (fun N p => ⟨setO p.1 N (Classical.choose (step N p.1 p.2)), Classical.choose_spec (step N p.1 p.2)⟩) N
  have fs : ∀ N, (f (N + 1)).1 = setO (f N).1 N (Classical.choose (step N (f N).1 (f N).2)) := fun N => rfl
  have stay : ∀ d i, (f (i + 1 + d)).1 i = (f (i + 1)).1 i := by
    intro d
    induction d with
    | zero => intro i; rfl
    | succ d ih =>
      intro i
      rw [← ih i, show i + 1 + (d + 1) = (i + 1 + d) + 1 by omega, fs]
      unfold setO
      rw [if_neg (by omega)]
  let ωi : Ora := fun i => (f (i + 1)).1 i
  obtain ⟨n, N, hn⟩ := h ωi
  refine (f N).2 ⟨n, fun ω' ha => hn ω' fun i hi => ?_⟩
  rw [← ha i hi]
  show (f (i + 1)).1 i = (f N).1 i
  have := stay (N - (i + 1)) i
  rw [show i + 1 + (N - (i + 1)) = N by omega] at this
  exact this.symm
/-! ### A heap operation gives no number back -/
theorem st_next {H H' : AHeap} {b off : Nat} {vs : List AV} (h : H.st b off vs = some H') : H'.next = H.next := by
  unfold AHeap.st at h
  split at h
  · split at h
    · simp at h; rw [← h]
    · cases h
  · cases h
theorem app_next {H H' : AHeap} {sz bytes : Nat} {p : Option (Nat × Nat)} {sv len : Nat} {cap : Option Nat} {m : Nat} {xs : List AV} {v : AV} (h : H.app sz bytes p sv len cap m xs = some (v, H')) : H.next ≤ H'.next := by
  unfold AHeap.app at h
  split at h
  · simp at h; rw [← h.2]; exact Nat.le_refl _
  · split at h
    · cases h
    · have new : ∀ cs, H.next ≤ (H.new cs).next := fun cs => Nat.le_succ _
      have shr : ∀ f b full cs, H.next ≤ (H.share f b full cs).next := fun f b full cs => Nat.le_succ _
      repeat' split at h
      all_goals first
        | (cases h; done)
        | (simp at h; rw [← h.2]; first | exact new _ | exact shr _ _ _ _)
        | skip
      all_goals (simp only [Option.some.injEq, Prod.mk.injEq] at h; rw [← h.2]; first | exact new _ | exact shr _ _ _ _)
theorem tagA_next {H H' : AHeap} {t : Nat} {p : Option (Nat × Nat)} : (H.tagA t p H').next = H'.next := by unfold AHeap.tagA; split <;> rfl
/-- What is asked of two ways of calling, up to a number. -/
structure Pr (C C' : CallF) (N : Nat) : Prop where
  mono : ∀ f args H v H', C f args H = some (v, H') → H.next ≤ H'.next
  up : ∀ f args H v H', C f args H = some (v, H') → H'.next ≤ N → C' f args H = some (v, H')
section
variable {C C' : CallF} {N : Nat} {F : Nat → Option AFunc}
theorem wsem_pr (h : Pr C C' N) {o : WOp} {vs : List AV} {H H' : AHeap} {v : AV} (hr : wsem C o vs H = some (v, H')) : H.next ≤ H'.next ∧ (H'.next ≤ N → wsem C' o vs H = some (v, H')) := by
  by_cases ho : o = .call
  · subst ho
    cases vs with
    | nil => simp [wsem] at hr
    | cons a vs =>
      cases a <;> first
        | exact ⟨h.mono _ _ _ _ _ hr, h.up _ _ _ _ _ hr⟩
        | (simp [wsem] at hr)
  · have other : wsem C' o vs H = wsem C o vs H := by
      unfold wsem
      split <;> first
        | rfl
        | exact absurd rfl ho
    refine ⟨?_, fun _ => by rw [other]; exact hr⟩
    clear other
    have new : ∀ cs, H.next ≤ (H.new cs).next := fun cs => Nat.le_succ _
    have newO : ∀ x, H.next ≤ (H.newObj x).next := fun x => Nat.le_succ _
    unfold wsem at hr
    split at hr
    all_goals try (exact absurd rfl ho)
    all_goals try dsimp only at hr
    all_goals
      repeat' split at hr
    all_goals first
      | (cases hr; done)
      | exact app_next hr
      | (simp only [Option.some.injEq, Prod.mk.injEq] at hr
         obtain ⟨_, rfl⟩ := hr
         first
           | exact Nat.le_refl _
           | exact new _
           | exact newO _
           | exact Nat.le_succ _
           | (rename_i hst; rw [tagA_next]; exact app_next hst)
           | (rename_i hst _; rw [tagA_next]; exact app_next hst)
           | (rename_i hst _ _; rw [tagA_next]; exact app_next hst)
           | (rename_i hst; rw [st_next hst]; exact Nat.le_refl _)
           | (rename_i hst _; rw [st_next hst]; exact Nat.le_refl _))
theorem osem_pr (h : Pr C C' N) {o : AOpc} {vs : List AV} {H H' : AHeap} {v : AV} (hr : osem C o vs H = some (v, H')) : H.next ≤ H'.next ∧ (H'.next ≤ N → osem C' o vs H = some (v, H')) := by
  cases o with
  | p o =>
    refine ⟨?_, fun _ => hr⟩
    simp only [osem] at hr
    split at hr
    · simp at hr; rw [← hr.2]; exact Nat.le_refl _
    · cases hr
  | r o =>
    refine ⟨?_, fun _ => hr⟩
    simp only [osem] at hr
    split at hr
    · simp at hr; rw [← hr.2]; exact Nat.le_refl _
    · cases hr
  | w o => exact wsem_pr h hr
theorem step1_pr (h : Pr C C' N) {o : AOper} {s : AState} {v : AV} {H' : AHeap} (hr : step1 C o s = some (v, H')) : s.2.next ≤ H'.next ∧ (H'.next ≤ N → step1 C' o s = some (v, H')) := by
  unfold step1 at hr ⊢
  cases hw : wanted s.1 o.guard with
  | none => simp [hw] at hr
  | some b =>
    rw [hw] at hr
    cases b with
    | false =>
      simp only [Option.some.injEq, Prod.mk.injEq] at hr
      obtain ⟨rfl, rfl⟩ := hr
      exact ⟨Nat.le_refl _, fun _ => rfl⟩
    | true => exact osem_pr h hr
theorem aop_pr (h : Pr C C' N) {o : AOper} {s r : AState} (hr : aop C o s = some r) : s.2.next ≤ r.2.next ∧ (r.2.next ≤ N → aop C' o s = some r) := by
  unfold aop at hr ⊢
  cases h1 : step1 C o s with
  | none => simp [h1] at hr
  | some p =>
    obtain ⟨v, H'⟩ := p
    obtain ⟨k1, k2⟩ := step1_pr h h1
    simp [h1] at hr
    subst hr
    exact ⟨k1, fun hN => by rw [k2 hN]⟩
theorem aops_pr (h : Pr C C' N) : ∀ {l : List AOper} {s r : AState}, aops C l s = some r → s.2.next ≤ r.2.next ∧ (r.2.next ≤ N → aops C' l s = some r)
  | [], s, r, hr => by simp [aops] at hr; subst hr; exact ⟨Nat.le_refl _, fun _ => rfl⟩
  | o :: l, s, r, hr => by
    unfold aops at hr ⊢
    cases h1 : aop C o s with
    | none => simp [h1] at hr
    | some p =>
      rw [h1] at hr
      obtain ⟨k1, k2⟩ := aop_pr h h1
      obtain ⟨k3, k4⟩ := aops_pr h hr
      exact ⟨Nat.le_trans k1 k3, fun hN => by rw [k2 (Nat.le_trans k3 hN)]; exact k4 hN⟩
theorem atrace_ne {l : List AOper} {s : AState} {r : List AState} (h : atrace C l s = some r) : r ≠ [] := by
  cases l with
  | nil => simp [atrace] at h; subst h; simp
  | cons o l =>
    unfold atrace at h
    split at h
    · split at h
      · simp at h; subst h; simp
      · cases h
    · cases h
theorem atrace_pr (h : Pr C C' N) : ∀ {l : List AOper} {s : AState} {r : List AState} {t : AState}, atrace C l s = some r → r.getLast? = some t → s.2.next ≤ t.2.next ∧ (t.2.next ≤ N → atrace C' l s = some r)
  | [], s, r, t, hr, ht => by simp [atrace] at hr; subst hr; simp at ht; subst ht; exact ⟨Nat.le_refl _, fun _ => rfl⟩
  | o :: l, s, r, t, hr, ht => by
    unfold atrace at hr ⊢
    cases h1 : aop C o s with
    | none => simp [h1] at hr
    | some p =>
      simp only [h1] at hr
      cases h2 : atrace C l p with
      | none => simp [h2] at hr
      | some q =>
        simp only [h2, Option.some.injEq] at hr
        subst hr
        have hq : q.getLast? = some t := by
          cases q with
          | nil => exact absurd rfl (atrace_ne h2)
          | cons x q => rwa [List.getLast?_cons_cons] at ht
        obtain ⟨k1, k2⟩ := aop_pr h h1
        obtain ⟨k3, k4⟩ := atrace_pr h h2 hq
        exact ⟨Nat.le_trans k1 k3, fun hN => by rw [k2 (Nat.le_trans k3 hN)]; simp only; rw [k4 hN]⟩
theorem aregion_pr (h : Pr C C' N) {l : List AOper} {fl : List (Nat × Nat)} {s r : AState} (hr : aregion C l fl s = some r) : s.2.next ≤ r.2.next ∧ (r.2.next ≤ N → aregion C' l fl s = some r) := by
  unfold aregion at hr ⊢
  cases fl with
  | nil => exact aops_pr h hr
  | cons f fl =>
    simp only at hr ⊢
    cases h1 : atrace C l s with
    | none => simp [h1] at hr
    | some tr =>
      simp only [h1] at hr
      split at hr
      · rename_i hf
        obtain ⟨k1, k2⟩ := atrace_pr h h1 hr
        exact ⟨k1, fun hN => by rw [k2 hN]; simp only; rw [if_pos hf]; exact hr⟩
      · cases hr
theorem roundF_pr {A A' B B' : AState → Option (AExit × AState)} (hA : ∀ s x t, A s = some (x, t) → s.2.next ≤ t.2.next ∧ (t.2.next ≤ N → A' s = some (x, t))) (hB : ∀ s x t, B s = some (x, t) → s.2.next ≤ t.2.next ∧ (t.2.next ≤ N → B' s = some (x, t)))
    {ps : List Nat} {e : Env} (vs : List AV) (H : AHeap) (v : AV) (H' : AHeap) (hr : roundF A B ps e vs H = some (v, H')) : H.next ≤ H'.next ∧ (H'.next ≤ N → roundF A' B' ps e vs H = some (v, H')) := by
  unfold roundF at hr ⊢
  split at hr
  · rename_i hl
    rw [if_pos hl]
    cases h1 : A (upd (putAll e ps vs) dfrT .undef, H) with
    | none => rw [h1] at hr; cases hr
    | some p =>
      obtain ⟨x, s1⟩ := p
      rw [h1] at hr
      obtain ⟨k1, k2⟩ := hA _ _ _ h1
      cases x with
      | normal =>
        simp only at hr
        cases h2 : B s1 with
        | none => rw [h2] at hr; cases hr
        | some q =>
          obtain ⟨y, s2⟩ := q
          rw [h2] at hr
          obtain ⟨k3, k4⟩ := hB _ _ _ h2
          cases y with
          | normal =>
            simp only [Option.some.injEq, Prod.mk.injEq] at hr
            obtain ⟨rfl, rfl⟩ := hr
            exact ⟨Nat.le_trans k1 k3, fun hN => by rw [k2 (Nat.le_trans k3 hN)]; simp only; rw [k4 hN]⟩
          | exit i => cases hr
          | ret => cases hr
      | exit i => cases hr
      | ret => cases hr
  · cases hr
theorem yldC_pr (h : Pr C C' N) {y : Nat} {R R' : List AV → AHeap → Option (AV × AHeap)} (hR : ∀ vs H v H', R vs H = some (v, H') → H.next ≤ H'.next ∧ (H'.next ≤ N → R' vs H = some (v, H'))) : Pr (yldC C y R) (yldC C' y R') N := by
  have both : ∀ f args H v H', yldC C y R f args H = some (v, H') → H.next ≤ H'.next ∧ (H'.next ≤ N → yldC C' y R' f args H = some (v, H')) := by
    intro f args H v H' hr
    unfold yldC at hr ⊢
    split at hr
    · rename_i e
      rw [if_pos e]
      split at hr
      · split at hr
        · rename_i e2; rw [if_pos e2]; exact hR _ _ _ _ hr
        · cases hr
      · cases hr
    · rename_i e
      rw [if_neg e]
      exact ⟨h.mono _ _ _ _ _ hr, h.up _ _ _ _ _ hr⟩
  exact ⟨fun f args H v H' hr => (both f args H v H' hr).1, fun f args H v H' hr => (both f args H v H' hr).2⟩
theorem iterEnd_some {res : List ARes} {e : Env} {b : Nat} {r : Option (AExit × AState)} {x : AExit} {t : AState} (h : iterEnd res e b r = some (x, t)) :
    ∃ y s1 vs, r = some (y, s1) ∧ (y = .normal ∨ y = .ret) ∧ s1.1 dfrT = .undef ∧ ares s1.1 s1.2 res = some vs ∧ x = .normal ∧ t = (upd e dfrT (pushM (e dfrT) b), s1.2) := by
  cases r with
  | none => simp [iterEnd] at h
  | some p =>
    obtain ⟨y, s1⟩ := p
    have key : (match s1.1 dfrT with | .undef => (match ares s1.1 s1.2 res with | some _ => some (AExit.normal, (upd e dfrT (pushM (e dfrT) b), s1.2)) | none => none) | _ => none) = some (x, t) →
        s1.1 dfrT = .undef ∧ ∃ vs, ares s1.1 s1.2 res = some vs ∧ x = .normal ∧ t = (upd e dfrT (pushM (e dfrT) b), s1.2) := by
      intro hk
      cases hd : s1.1 dfrT <;> rw [hd] at hk <;> simp only [reduceCtorEq] at hk
      refine ⟨rfl, ?_⟩
      cases h4 : ares s1.1 s1.2 res with
      | none => simp [h4] at hk
      | some vs => simp [h4] at hk; exact ⟨vs, rfl, hk.1.symm, hk.2.symm⟩
    cases y with
    | exit i => simp [iterEnd] at h
    | normal => obtain ⟨k1, vs, k2, k3⟩ := key h; exact ⟨_, s1, vs, rfl, .inl rfl, k1, k2, k3⟩
    | ret => obtain ⟨k1, vs, k2, k3⟩ := key h; exact ⟨_, s1, vs, rfl, .inr rfl, k1, k2, k3⟩
theorem acode_pr (h : Pr C C' N) : ∀ {n : Nat} {c : ACode} {s t : AState} {x : AExit}, acode F C n c s = some (x, t) → s.2.next ≤ t.2.next ∧ (t.2.next ≤ N → acode F C' n c s = some (x, t)) := by
  intro n
  induction n generalizing C C' with
  | zero => intro c s t x hr; simp [acode] at hr
  | succ n ih =>
    intro c s t x hr
    cases c with
    | rngf g ps asg body =>
      simp only [acode] at hr ⊢
      cases hg : s.1.ev g <;> rw [hg] at hr <;> first
        | (cases hr; done)
        | skip
      rename_i f first caps
      simp only at hr ⊢
      cases hF : F f with
      | none => simp [hF] at hr
      | some fn =>
        simp only [hF] at hr ⊢
        obtain ⟨y, s1, vs, h1, _, _, _, _, ht⟩ := iterEnd_some hr
        have hp := yldC_pr (y := s.2.next + 1) h (roundF_pr (A := acode F C n asg) (A' := acode F C' n asg) (B := acode F C n body) (B' := acode F C' n body) (fun _ _ _ => ih h) (fun _ _ _ => ih h) (ps := ps) (e := s.1))
        obtain ⟨k1, k2⟩ := ih hp h1
        have t2 : t.2 = s1.2 := by rw [ht]
        have k1 : s.2.next + 2 ≤ s1.2.next := k1
        rw [t2]
        refine ⟨by omega, fun hN => ?_⟩
        rw [k2 hN, ← h1]; exact hr
    | skip => simp [acode] at hr; obtain ⟨rfl, rfl⟩ := hr; exact ⟨Nat.le_refl _, fun _ => rfl⟩
    | exit id => simp [acode] at hr; obtain ⟨rfl, rfl⟩ := hr; exact ⟨Nat.le_refl _, fun _ => rfl⟩
    | ret => simp [acode] at hr; obtain ⟨rfl, rfl⟩ := hr; exact ⟨Nat.le_refl _, fun _ => rfl⟩
    | region ops d fl =>
      simp only [acode] at hr ⊢
      cases h1 : aregion C ops fl s with
      | none => simp [h1] at hr
      | some s' =>
        simp [h1] at hr
        obtain ⟨rfl, rfl⟩ := hr
        obtain ⟨k1, k2⟩ := aregion_pr h h1
        exact ⟨k1, fun hN => by rw [k2 hN]⟩
    | seq a b =>
      simp only [acode] at hr ⊢
      cases h1 : acode F C n a s with
      | none => simp [h1] at hr
      | some p =>
        obtain ⟨y, s'⟩ := p
        obtain ⟨k1, k2⟩ := ih h h1
        rw [h1] at hr
        cases y with
        | normal =>
          simp only at hr
          obtain ⟨k3, k4⟩ := ih h hr
          exact ⟨Nat.le_trans k1 k3, fun hN => by rw [k2 (Nat.le_trans k3 hN)]; exact k4 hN⟩
        | exit i => simp at hr; obtain ⟨rfl, rfl⟩ := hr; exact ⟨k1, fun hN => by rw [k2 hN]⟩
        | ret => simp at hr; obtain ⟨rfl, rfl⟩ := hr; exact ⟨k1, fun hN => by rw [k2 hN]⟩
    | cond c a b =>
      simp only [acode] at hr ⊢
      cases h1 : s.1.ev c <;> rw [h1] at hr <;> first
        | (cases hr; done)
        | skip
      rename_i y
      cases y with
      | true => exact ih h hr
      | false => exact ih h hr
    | block id b =>
      simp only [acode] at hr ⊢
      cases h1 : acode F C n b s with
      | none => simp [h1] at hr
      | some p =>
        obtain ⟨y, s'⟩ := p
        obtain ⟨k1, k2⟩ := ih h h1
        rw [h1] at hr
        cases y with
        | normal => simp at hr; obtain ⟨rfl, rfl⟩ := hr; exact ⟨k1, fun hN => by rw [k2 hN]⟩
        | ret => simp at hr; obtain ⟨rfl, rfl⟩ := hr; exact ⟨k1, fun hN => by rw [k2 hN]⟩
        | exit i =>
          simp only at hr
          have : t = s' := by split at hr <;> simp at hr <;> exact hr.2.symm
          subst this
          exact ⟨k1, fun hN => by rw [k2 hN]; exact hr⟩
    | loop b =>
      simp only [acode] at hr ⊢
      cases h1 : acode F C n b s with
      | none => simp [h1] at hr
      | some p =>
        obtain ⟨y, s'⟩ := p
        obtain ⟨k1, k2⟩ := ih h h1
        rw [h1] at hr
        cases y with
        | normal =>
          simp only at hr
          obtain ⟨k3, k4⟩ := ih h hr
          exact ⟨Nat.le_trans k1 k3, fun hN => by rw [k2 (Nat.le_trans k3 hN)]; exact k4 hN⟩
        | exit i => simp at hr; obtain ⟨rfl, rfl⟩ := hr; exact ⟨k1, fun hN => by rw [k2 hN]⟩
        | ret => simp at hr; obtain ⟨rfl, rfl⟩ := hr; exact ⟨k1, fun hN => by rw [k2 hN]⟩
theorem dcall_pr (h : Pr C C' N) {n f : Nat} {args : List AV} {H H' : AHeap} (hr : dcall F C n f args H = some H') : H.next ≤ H'.next ∧ (H'.next ≤ N → dcall F C' n f args H = some H') := by
  unfold dcall at hr ⊢
  cases hF : F f with
  | none => simp [hF] at hr
  | some fn =>
    simp only [hF] at hr ⊢
    cases h1 : acode F C n fn.body (fun i => if i = dfrT then .undef else args.getD i .undef, H) with
    | none => simp only [h1] at hr; cases hr
    | some p =>
      obtain ⟨x, s⟩ := p
      obtain ⟨k1, k2⟩ := acode_pr h h1
      simp only [h1] at hr
      have key : ∀ {r : Option AHeap}, (match x with
          | .normal | .ret => r
          | _ => none) = some H' → r = some H' := by
        intro r hk
        cases x <;> simp at hk <;> exact hk
      have fin : H' = s.2 := by
        cases x with
        | exit i => simp at hr
        | normal =>
          simp only at hr
          split at hr
          · split at hr
            · simp at hr; exact hr.symm
            · cases hr
          · cases hr
        | ret =>
          simp only at hr
          split at hr
          · split at hr
            · simp at hr; exact hr.symm
            · cases hr
          · cases hr
      subst fin
      exact ⟨k1, fun hN => by rw [k2 hN]; exact hr⟩
theorem rundL_pr {D D' : Nat → List AV → AHeap → Option AHeap} (h : ∀ f args H H', D f args H = some H' → H.next ≤ H'.next ∧ (H'.next ≤ N → D' f args H = some H')) : ∀ {l : List AV} {H H' : AHeap}, rundL D l H = some H' → H.next ≤ H'.next ∧ (H'.next ≤ N → rundL D' l H = some H')
  | [], H, H', hr => by simp [rundL] at hr; subst hr; exact ⟨Nat.le_refl _, fun _ => rfl⟩
  | v :: l, H, H', hr => by
    rcases rundL_cons hr with ⟨f, as, caps, H1, rfl, h1, h2⟩ | ⟨b, rfl, h1, h2⟩
    · obtain ⟨k1, k2⟩ := h _ _ _ _ h1
      obtain ⟨k3, k4⟩ := rundL_pr h h2
      exact ⟨Nat.le_trans k1 k3, fun hN => by simp only [rundL]; rw [k2 (Nat.le_trans k3 hN)]; exact k4 hN⟩
    · have := rundL_pr (H := H.setObj b (.dq false)) h h2
      exact ⟨this.1, fun hN => by simp only [rundL]; rw [h1]; exact this.2 hN⟩
theorem rund_pr {D D' : Nat → List AV → AHeap → Option AHeap} (h : ∀ f args H H', D f args H = some H' → H.next ≤ H'.next ∧ (H'.next ≤ N → D' f args H = some H')) {v : AV} {H H' : AHeap} (hr : rund D v H = some H') : H.next ≤ H'.next ∧ (H'.next ≤ N → rund D' v H = some H') := by
  cases v <;> simp only [rund, reduceCtorEq] at hr ⊢
  · simp at hr; subst hr; exact ⟨Nat.le_refl _, fun _ => rfl⟩
  · exact rundL_pr h hr
end
/-! ### What is told of maps that are ranged over -/
def rngPrim : List AV → AHeap → Option (AV × AHeap)
  | [.map none], H => some (.ptr (some (H.next, 0)), H.newObj (.mit none 0 [] 0))
  | [.map (some m)], H => match H.blk m with
    | some (.map _ _ st) => some (.ptr (some (H.next, 0)), H.newObj (.mit (some m) st.2 [] st.2))
    | _ => none
  | _, _ => none
/-- What may come next: an entry with its birth, or the end. -/
def cands (es : List (Nat × AV × AV)) (since : Nat) (seen : List Nat) : List (Option (Nat × AV × AV)) :=
  let left := es.filter fun e => !seen.contains e.1
  let old := left.filter fun e => decide (e.1 < since)
  let new := left.filter fun e => decide (since ≤ e.1)
  (if old.isEmpty then [none] else []) ++ (old ++ new).map some
/-- A choice out of an oracle's answers. -/
def choice (ω : Ora) : Nat → Nat → Nat
  | _, 0 => 0
  | b, k + 1 => if ω b then choice ω (b + 1) k + 1 else 0
theorem choice_le (ω : Ora) : ∀ (k b : Nat), choice ω b k ≤ k
  | 0, _ => Nat.le_refl _
  | k + 1, b => by
    unfold choice
    split
    · have := choice_le ω k (b + 1); omega
    · omega
theorem choice_agree {ω ω' : Ora} {N : Nat} (h : Agree ω ω' N) : ∀ (k b : Nat), b + k ≤ N → choice ω b k = choice ω' b k
  | 0, _, _ => rfl
  | k + 1, b, hb => by
    unfold choice
    rw [h b (by omega), choice_agree h k (b + 1) (by omega)]
/-- The oracle that chooses so. -/
def aim (ω : Ora) (b q : Nat) : Ora := fun i => if b ≤ i then decide (i < b + q) else ω i
theorem aim_choice (ω : Ora) (b q : Nat) : ∀ (k j : Nat), j ≤ q → q - j ≤ k → choice (aim ω b q) (b + j) k = q - j
  | 0, j, h1, h2 => by unfold choice; omega
  | k + 1, j, h1, h2 => by
    unfold choice
    by_cases e : j = q
    · rw [if_neg (by unfold aim; rw [if_pos (by omega)]; simp; omega)]; omega
    · rw [if_pos (by unfold aim; rw [if_pos (by omega)]; simp; omega)]
      have := aim_choice ω b q k (j + 1) (by omega) (by omega)
      rw [show b + j + 1 = b + (j + 1) by omega, this]; omega
theorem aim_agree (ω : Ora) (b q : Nat) : Agree ω (aim ω b q) b := fun i hi => by unfold aim; rw [if_neg (by omega)]
def AHeap.bump (H : AHeap) (n : Nat) : AHeap := { H with next := H.next + n }
def nxtPrim (ω : Ora) : List AV → AHeap → Option (AV × AHeap)
  | [.ptr (some (b, 0))], H => match H.blk b with
    | some (.mit none _ _ _) => some (.tup [.bool false], H)
    | some (.mit (some m) since seen last) => match H.blk m with
      | some (.map _ es st) =>
        if seen.isEmpty = false ∧ es.isEmpty = false ∧ (st.1.all fun c => decide (last ≤ c)) = true then none else
        let c := cands (st.1.zip es) since seen
        match c[choice ω H.next (c.length - 1)]? with
        | some (some (i, k, v)) => some (.tup [.bool true, k, v], (H.setObj b (.mit (some m) since (seen ++ [i]) st.2)).bump c.length)
        | some none => some (.tup [.bool false], H.bump c.length)
        | none => none
      | _ => none
    | _ => none
  | _, _ => none
def oprims (ω : Ora) (p : Nat → Option (List AV → AHeap → Option (AV × AHeap))) : Nat → Option (List AV → AHeap → Option (AV × AHeap)) :=
  fun g => if g = nxtF then some (nxtPrim ω) else if g = rngF then some rngPrim else p g
theorem nxt_next {ω : Ora} {args : List AV} {H H' : AHeap} {v : AV} (h : nxtPrim ω args H = some (v, H')) : H.next ≤ H'.next ∧ ∀ {ω' N}, Agree ω ω' N → H'.next ≤ N → nxtPrim ω' args H = some (v, H') := by
  unfold nxtPrim at h ⊢
  split at h
  · split at h
    · rename_i hb
      simp at h
      obtain ⟨rfl, rfl⟩ := h
      exact ⟨Nat.le_refl _, fun _ _ => rfl⟩
    · rename_i m since seen last hb
      split at h
      · rename_i own es st hm
        split at h
        · cases h
        · rename_i hc
          obtain ⟨c, hcc⟩ : ∃ c, cands (List.zip st.1 es) since seen = c := ⟨_, rfl⟩
          rw [hcc] at h
          have nx : H'.next = H.next + c.length := by
            simp only at h
            split at h
            · simp at h; rw [← h.2]; rfl
            · simp at h; rw [← h.2]; rfl
            · cases h
          refine ⟨by omega, fun hω hN => ?_⟩
          have := choice_agree hω (c.length - 1) H.next (by omega)
          simp only
          rw [if_neg hc, hcc, ← this]
          exact h
      · cases h
    · cases h
  · cases h
theorem rng_next {args : List AV} {H H' : AHeap} {v : AV} (h : rngPrim args H = some (v, H')) : H.next ≤ H'.next := by
  unfold rngPrim at h
  split at h
  · simp at h; rw [← h.2]; exact Nat.le_succ _
  · split at h
    · simp at h; rw [← h.2]; exact Nat.le_succ _
    · cases h
  · cases h
/-- Told functions give no numbers back. -/
def PrimsUp (p : Nat → Option (List AV → AHeap → Option (AV × AHeap))) : Prop := ∀ g q, p g = some q → ∀ args H v H', q args H = some (v, H') → H.next ≤ H'.next
theorem acall_pr {F : Nat → Option AFunc} {p : Nat → Option (List AV → AHeap → Option (AV × AHeap))} (hp : PrimsUp p) (hF : F nxtF = none) {ω ω' : Ora} {N : Nat} (hω : Agree ω ω' N) : ∀ n, Pr (acall F (oprims ω p) n) (acall F (oprims ω' p) n) N
  | 0 => ⟨fun f args H v H' h => by simp [acall] at h, fun f args H v H' h => by simp [acall] at h⟩
  | n + 1 => by
    have ih := acall_pr hp hF hω n
    have both : ∀ f args H v H', acall F (oprims ω p) (n + 1) f args H = some (v, H') → H.next ≤ H'.next ∧ (H'.next ≤ N → acall F (oprims ω' p) (n + 1) f args H = some (v, H')) := by
      intro f args H v H' h
      unfold acall at h ⊢
      cases ht : told (oprims ω p f) args H with
      | some r =>
        rw [ht] at h
        simp only [Option.some.injEq] at h
        subst h
        by_cases e : f = nxtF
        · subst e
          have ht : nxtPrim ω args H = some (v, H') := by simpa [told, oprims] using ht
          obtain ⟨k1, k2⟩ := nxt_next ht
          refine ⟨k1, fun hN => ?_⟩
          have : told (oprims ω' p nxtF) args H = some (v, H') := by simpa [told, oprims] using k2 hω hN
          rw [this]
        · have same : oprims ω' p f = oprims ω p f := by simp [oprims, e]
          rw [same, ht]
          refine ⟨?_, fun _ => rfl⟩
          by_cases e2 : f = rngF
          · subst e2
            have ht : rngPrim args H = some (v, H') := by simpa [told, oprims, rngF, nxtF] using ht
            exact rng_next ht
          · have ho : oprims ω p f = p f := by simp [oprims, e, e2]
            rw [ho] at ht
            unfold told at ht
            cases hq : p f with
            | none => rw [hq] at ht; cases ht
            | some q => rw [hq] at ht; exact hp f q hq args H v H' ht
      | none =>
        rw [ht] at h
        by_cases e : f = nxtF
        · subst e; rw [hF] at h; simp at h
        · have same : oprims ω' p f = oprims ω p f := by simp [oprims, e]
          rw [same, ht]
          simp only at h ⊢
          cases hf : F f with
          | none => simp [hf] at h
          | some fn =>
            simp only [hf] at h ⊢
            cases h1 : acode F (acall F (oprims ω p) n) (n + 1) fn.body (fun i => if i = dfrT then .undef else args.getD i .undef, H) with
            | none => simp only [h1] at h; cases h
            | some q =>
              obtain ⟨x, s⟩ := q
              obtain ⟨k1, k2⟩ := acode_pr ih h1
              simp only [h1] at h
              have dp : ∀ f args H H', dcall F (acall F (oprims ω p) n) n f args H = some H' → H.next ≤ H'.next ∧ (H'.next ≤ N → dcall F (acall F (oprims ω' p) n) n f args H = some H') := fun f args H H' hd => dcall_pr ih hd
              cases x with
              | exit i => simp at h
              | normal =>
                simp only at h
                cases h2 : rund (dcall F (acall F (oprims ω p) n) n) (s.1 dfrT) s.2 with
                | none => simp [h2] at h
                | some H2 =>
                  obtain ⟨k3, k4⟩ := rund_pr dp h2
                  simp only [h2] at h
                  cases h3 : ares s.1 H2 fn.results with
                  | none => simp [h3] at h
                  | some vs =>
                    simp only [h3, Option.some.injEq, Prod.mk.injEq] at h
                    obtain ⟨rfl, rfl⟩ := h
                    exact ⟨Nat.le_trans k1 k3, fun hN => by rw [k2 (Nat.le_trans k3 hN)]; simp only; rw [k4 hN]; simp only [h3]⟩
              | ret =>
                simp only at h
                cases h2 : rund (dcall F (acall F (oprims ω p) n) n) (s.1 dfrT) s.2 with
                | none => simp [h2] at h
                | some H2 =>
                  obtain ⟨k3, k4⟩ := rund_pr dp h2
                  simp only [h2] at h
                  cases h3 : ares s.1 H2 fn.results with
                  | none => simp [h3] at h
                  | some vs =>
                    simp only [h3, Option.some.injEq, Prod.mk.injEq] at h
                    obtain ⟨rfl, rfl⟩ := h
                    exact ⟨Nat.le_trans k1 k3, fun hN => by rw [k2 (Nat.le_trans k3 hN)]; simp only; rw [k4 hN]; simp only [h3]⟩
    exact ⟨fun f args H v H' h => (both f args H v H' h).1, fun f args H v H' h hN => (both f args H v H' h).2 hN⟩
end Go.Am
