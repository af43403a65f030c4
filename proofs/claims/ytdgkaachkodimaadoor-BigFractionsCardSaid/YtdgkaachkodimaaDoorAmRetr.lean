/- Two traces of a region under two oracles: what has run is the same in both, as far as both oracles are the same. -/
import Derived.Test.YtdgkaachkodimaaDoorAmCore
import Derived.Test.YtdgkaachkodimaaDoorAmOra
set_option linter.unusedVariables false
set_option linter.unusedSimpArgs false
namespace Go.Am
theorem envOf_val {l : List AOper} {val val' : Nat → AV} {e0 : Env} {D : Nat → Bool} : ∀ n, (∀ i, i < n → D i = true → val i = val' i) → envOf l val e0 D n = envOf l val' e0 D n
  | 0, _ => rfl
  | n + 1, h => by
    have ih := envOf_val (l := l) (e0 := e0) n fun i hi => h i (by omega)
    unfold envOf
    cases hl : l[n]? with
    | none => exact ih
    | some o =>
      simp only
      cases hD : D n with
      | false => simpa using ih
      | true => simp only [if_true]; rw [ih, h n (by omega) hD]
section
variable {C C' : CallF} {l : List AOper} {st st' : Nat → AState} {val val' : Nat → AV} {F : Nat → Bool} {N : Nat}
/-- The first writer that has not run. -/
theorem first_writer (l : List AOper) (F : Nat → Bool) : ∃ k, k ≤ l.length ∧ (∀ j, j < k → isW l j = true → F j = true) ∧ (k < l.length → isW l k = true ∧ F k = false) := by
  rcases least_or (p := fun j => !F j && isW l j) l.length with h | ⟨j, h1, h2, h3⟩
  · refine ⟨l.length, Nat.le_refl _, fun j hj hw => ?_, fun h => by omega⟩
    have := h j hj
    simpa [hw] using this
  · simp only [Bool.and_eq_true, Bool.not_eq_true'] at h2
    refine ⟨j, by omega, fun i hi hw => ?_, fun _ => ⟨h2.2, h2.1⟩⟩
    have := h3 i hi
    simpa [hw] using this
theorem heap_at (r : Ran C l st val) (hp : Pre l F) {k : Nat} (hk : k ≤ l.length) (h1 : ∀ j, j < k → isW l j = true → F j = true) (h2 : k < l.length → isW l k = true ∧ F k = false) : (stateOf l st val F).2 = (st k).2 := by
  have e := heapOf_text r k l.length (Nat.le_refl _)
  rw [show min k l.length = k by omega] at e
  rw [← e]
  refine heapOf_congr l.length fun j hj hjw => ?_
  rcases Nat.lt_trichotomy j k with h | h | h
  · rw [h1 j h hjw]; simp [h]
  · subst h; rw [(h2 hj).2]; simp
  · have : F j = false := by
      cases hF : F j with
      | false => rfl
      | true =>
        have := hp k j h (h2 (by omega)).1 hjw hF
        rw [(h2 (by omega)).2] at this; cases this
    rw [this]; simp; omega
theorem retrace (r : Ran C l st val) (r' : Ran C' l st' val') (ck : Chk l) (fl : FloatsOk l st val) (fl' : FloatsOk l st' val') (h0 : st 0 = st' 0) (hF : Closed l F) (hp : Pre l F) (hpr : Pr C C' N) (hN : (stateOf l st val F).2.next ≤ N) :
    stateOf l st' val' F = stateOf l st val F ∧ ∀ j x, l[j]? = some x → F j = false → (∀ d ∈ x.deps, F d = true) → ∀ t ∈ x.looks, (st' j).1 t = (st j).1 t := by
  obtain ⟨k, k0, k1, k2⟩ := first_writer l F
  have hk := heap_at r hp k0 k1 k2
  have hk' := heap_at r' hp k0 k1 k2
  rw [hk] at hN
  have get : ∀ i, i < l.length → ∃ x, l[i]? = some x := fun i hi => ⟨_, List.getElem?_eq_getElem hi⟩
  have mono : ∀ d i, i + d ≤ l.length → (st i).2.next ≤ (st (i + d)).2.next := by
    intro d
    induction d with
    | zero => intro i _; exact Nat.le_refl _
    | succ d ih =>
      intro i hi
      obtain ⟨x, hx⟩ := get (i + d) (by omega)
      exact Nat.le_trans (ih i (by omega)) (step1_pr hpr (r.step _ x hx)).1
  -- up to the first writer that has not run
  have pre : ∀ i, i ≤ k → st i = st' i ∧ ∀ j, j < i → val j = val' j := by
    intro i
    induction i with
    | zero => intro _; exact ⟨h0, fun j hj => by omega⟩
    | succ i ih =>
      intro hi
      obtain ⟨e1, e2⟩ := ih (by omega)
      obtain ⟨x, hx⟩ := get i (by omega)
      have hb : (st (i + 1)).2.next ≤ N := by
        have := mono (k - (i + 1)) (i + 1) (by omega)
        rw [show i + 1 + (k - (i + 1)) = k by omega] at this
        omega
      have a1 := (step1_pr hpr (r.step i x hx)).2 hb
      have a2 := r'.step i x hx
      rw [← e1, a1] at a2
      simp only [Option.some.injEq, Prod.mk.injEq] at a2
      obtain ⟨a3, a4⟩ := a2
      refine ⟨Prod.ext ?_ a4, fun j hj => ?_⟩
      · rw [r.env i x hx, r'.env i x hx, e1, a3]
      · by_cases e : j = i
        · subst e; exact a3
        · exact e2 j (by omega)
  have stk := (pre k (Nat.le_refl _)).1
  have vals : ∀ j, j < l.length → F j = true → val j = val' j := by
    intro j
    induction j using Nat.strongRecOn with
    | _ j ih =>
      intro hj hFj
      by_cases hjk : j < k
      · exact (pre k (Nat.le_refl _)).2 j hjk
      · have hkl : k < l.length := by omega
        obtain ⟨wk, fk⟩ := k2 hkl
        have hne : j ≠ k := by rintro rfl; rw [fk] at hFj; cases hFj
        obtain ⟨x, hx⟩ := get j hj
        have nw : x.opc.isW = false := by
          cases hw : x.opc.isW with
          | false => rfl
          | true =>
            have := hp k j (by omega) wk (by simp [isW, hx, hw]) hFj
            rw [fk] at this; cases this
        -- what it looks at
        have clD : Closed l fun i => F i && decide (i < j) := by
          intro i y hy hi d hd
          simp only [Bool.and_eq_true, decide_eq_true_eq] at hi ⊢
          have := (ck.back i y hy d hd).1
          exact ⟨hF i y hy hi.1 d hd, by omega⟩
        have dep : ∀ d ∈ x.deps, (fun i => F i && decide (i < j)) d = true := by
          intro d hd
          simp only [Bool.and_eq_true, decide_eq_true_eq]
          exact ⟨hF j x hx hFj d hd, (ck.back j x hx d hd).1⟩
        have lk1 := stateOf_looks r ck clD hx (by simp) dep
        have lk2 := stateOf_looks r' ck clD hx (by simp) dep
        have env : (stateOf l st val fun i => F i && decide (i < j)).1 = (stateOf l st' val' fun i => F i && decide (i < j)).1 := by
          unfold stateOf
          simp only
          rw [← h0]
          refine envOf_val l.length fun i hi hd => ?_
          simp only [Bool.and_eq_true, decide_eq_true_eq] at hd
          exact ih i hd.2 hi hd.1
        have lk : ∀ t ∈ x.looks, (st j).1 t = (st' j).1 t := fun t ht => by rw [← lk1 t ht, ← lk2 t ht, env]
        obtain ⟨hargs, hwant⟩ := ev_congr (o := x) lk
        have s1 := r.step j x hx
        have s2 := r'.step j x hx
        unfold step1 at s1 s2
        cases hw : wanted (st j).1 x.guard with
        | none => rw [hw] at s1; cases s1
        | some b =>
          rw [← hwant, hw] at s2
          rw [hw] at s1
          cases b with
          | false =>
            simp only [Option.some.injEq, Prod.mk.injEq] at s1 s2
            rw [← s1.1, ← s2.1]
          | true =>
            simp only at s1 s2
            cases hopc : x.opc with
            | w q => rw [hopc] at nw; simp [AOpc.isW] at nw
            | p q =>
              rw [hopc] at s1 s2
              simp only [osem] at s1 s2
              rw [← hargs] at s2
              cases hq : psem q (x.args.map (st j).1.ev) with
              | none => simp [hq] at s1
              | some z => simp [hq] at s1 s2; rw [← s1.1, ← s2.1]
            | r q =>
              obtain ⟨y, hy, hyw⟩ := isW_get wk
              have nd : ¬ (if j < k then j ∈ y.deps else k ∈ x.deps) := by
                rw [if_neg (by omega)]
                intro hm
                have := hF j x hx hFj k hm
                rw [fk] at this; cases this
              have f1 := (fl j k x y q hx hy hopc hyw nd hw).1
              have f2 := (fl' j k x y q hx hy hopc hyw nd (by rw [← hwant]; exact hw)).1
              rw [← hargs, ← stk, f1] at f2
              exact Option.some.inj f2
  have same : stateOf l st' val' F = stateOf l st val F := by
    refine Prod.ext ?_ ?_
    · unfold stateOf
      simp only
      rw [← h0]
      exact (envOf_val l.length fun i hi hd => vals i hi hd).symm
    · rw [hk, hk', stk]
  refine ⟨same, fun j x hx hj hd t ht => ?_⟩
  rw [← stateOf_looks r ck hF hx hj hd t ht, ← stateOf_looks r' ck hF hx hj hd t ht, same]
end
end Go.Am
