/- A region's operations in whatever order its edges allow: what the text's order gives, each such order gives. -/
import Derived.Test.YtjmiblcdjkcgoaaAmComp
set_option linter.unusedVariables false
set_option linter.unusedSimpArgs false
namespace Go.Am

section
variable {C : CallF} {l : List AOper} {st : Nat → AState} {val : Nat → AV}

/-- What ran so far, as if in the text's order. -/
def envOf (l : List AOper) (val : Nat → AV) (e0 : Env) (D : Nat → Bool) : Nat → Env
  | 0 => e0
  | k + 1 => match l[k]? with
    | some o => if D k then (envOf l val e0 D k).put o.dst (val k) else envOf l val e0 D k
    | none => envOf l val e0 D k
def isW (l : List AOper) (k : Nat) : Bool := match l[k]? with | some o => o.opc.isW | none => false
def heapOf (l : List AOper) (st : Nat → AState) (D : Nat → Bool) : Nat → AHeap
  | 0 => (st 0).2
  | k + 1 => if D k && isW l k then (st (k + 1)).2 else heapOf l st D k

/-- A run in the text's order. -/
structure Ran (C : CallF) (l : List AOper) (st : Nat → AState) (val : Nat → AV) : Prop where
  step : ∀ i o, l[i]? = some o → step1 C o (st i) = some (val i, (st (i + 1)).2)
  env : ∀ i o, l[i]? = some o → (st (i + 1)).1 = (st i).1.put o.dst (val i)

theorem step1_heap {o : AOper} {s : AState} {v : AV} {H : AHeap} (h : step1 C o s = some (v, H)) (hw : o.opc.isW = false) : H = s.2 := by
  unfold step1 at h
  split at h
  · unfold osem at h
    cases ho : o.opc with
    | p q =>
      rw [ho] at h; simp only at h
      cases hp : psem q (o.args.map s.1.ev) with
      | none => simp [hp] at h
      | some z => simp [hp] at h; exact h.2.symm
    | r q =>
      rw [ho] at h; simp only at h
      cases hp : rsem q (o.args.map s.1.ev) s.2 with
      | none => simp [hp] at h
      | some z => simp [hp] at h; exact h.2.symm
    | w q => rw [ho] at hw; simp [AOpc.isW] at hw
  · simp at h; exact h.2.symm
  · cases h

theorem put_get (e : Env) (d : Option Nat) (v : AV) (t : Nat) : e.put d v t = if d = some t then v else e t := by
  cases d with
  | none => simp [Env.put]
  | some d =>
    simp only [Env.put, upd]
    by_cases h : t = d
    · subst h; simp
    · rw [if_neg h, if_neg (by simp; exact fun e => h e.symm)]

theorem envOf_congr {e0 : Env} {D D' : Nat → Bool} (t : Nat) : ∀ n, (∀ (j : Nat) o, j < n → l[j]? = some o → o.dst = some t → D j = D' j) → envOf l val e0 D n t = envOf l val e0 D' n t
  | 0, _ => rfl
  | n + 1, h => by
    have ih := envOf_congr (e0 := e0) t n (fun j o hj => h j o (by omega))
    unfold envOf
    cases hl : l[n]? with
    | none => exact ih
    | some o =>
      simp only
      by_cases hd : o.dst = some t
      · have := h n o (by omega) hl hd
        rw [this]
        split
        · rw [put_get, put_get, if_pos hd, if_pos hd]
        · exact ih
      · have e1 : ∀ (b : Bool) (e : Env), (if b = true then e.put o.dst (val n) else e) t = e t := by
          intro b e; split
          · rw [put_get, if_neg hd]
          · rfl
        rw [e1, e1]; exact ih

theorem heapOf_congr {D D' : Nat → Bool} : ∀ n, (∀ j, j < n → isW l j = true → D j = D' j) → heapOf l st D n = heapOf l st D' n
  | 0, _ => rfl
  | n + 1, h => by
    have ih := heapOf_congr n (fun j hj => h j (by omega))
    unfold heapOf
    cases hw : isW l n with
    | false => simp [ih]
    | true => rw [h n (by omega) hw]; split <;> simp_all

theorem envOf_text (r : Ran C l st val) (i : Nat) : ∀ n, n ≤ l.length → envOf l val (st 0).1 (fun j => decide (j < i)) n = (st (min i n)).1
  | 0, _ => by simp [envOf]
  | n + 1, hn => by
    have ih := envOf_text r i n (by omega)
    unfold envOf
    have hl : l[n]? = some (l[n]'(by omega)) := List.getElem?_eq_getElem _
    rw [hl]
    simp only
    by_cases h : n < i
    · simp only [h, decide_true, if_true]
      rw [ih, show min i n = n by omega, show min i (n + 1) = n + 1 by omega, r.env n _ hl]
    · simp only [h, decide_false, Bool.false_eq_true, if_false]
      rw [ih, show min i (n + 1) = min i n by omega]

theorem heapOf_text (r : Ran C l st val) (i : Nat) : ∀ n, n ≤ l.length → heapOf l st (fun j => decide (j < i)) n = (st (min i n)).2
  | 0, _ => by simp [heapOf]
  | n + 1, hn => by
    have ih := heapOf_text r i n (by omega)
    unfold heapOf
    have hl : l[n]? = some (l[n]'(by omega)) := List.getElem?_eq_getElem _
    by_cases h : n < i
    · cases hw : isW l n with
      | true => simp [h]; rw [show min i (n + 1) = n + 1 by omega]
      | false =>
        simp [h]
        rw [ih, show min i n = n by omega, show min i (n + 1) = n + 1 by omega]
        have := step1_heap (r.step n _ hl) (by simpa [isW, hl] using hw)
        exact this.symm
    · simp [h]
      rw [ih, show min i (n + 1) = min i n by omega]

/-! ### The checks, as facts -/
structure Chk (l : List AOper) : Prop where
  names : ∀ (i j : Nat) x y, i < j → l[i]? = some x → l[j]? = some y → i ∉ y.deps → (∀ d, x.dst = some d → d ∉ y.looks ∧ y.dst ≠ some d) ∧ (∀ d, y.dst = some d → d ∉ x.looks)
  writers : ∀ (i j : Nat) x y, i < j → l[i]? = some x → l[j]? = some y → x.opc.isW = true → y.opc.isW = true → i ∈ y.deps
  back : ∀ (i : Nat) x, l[i]? = some x → ∀ d ∈ x.deps, d < i ∧ ∃ y, l[d]? = some y ∧ ∀ q ∈ y.deps, q ∈ x.deps

theorem mem_pairs {n i j : Nat} (h : i < j) (hj : j < n) : (i, j) ∈ pairs n := by
  unfold pairs
  rw [List.mem_flatMap]
  exact ⟨j, List.mem_range.2 hj, List.mem_map.2 ⟨i, List.mem_range.2 h, rfl⟩⟩

theorem regOk_chk (h : regOk l = true) : Chk l := by
  unfold regOk at h
  rw [Bool.and_eq_true] at h
  obtain ⟨h1, h2⟩ := h
  have lt : ∀ {i : Nat} {x : AOper}, l[i]? = some x → i < l.length := fun hx => (List.getElem?_eq_some_iff.1 hx).1
  have pk : ∀ (i j : Nat) x y, i < j → l[i]? = some x → l[j]? = some y → i ∉ y.deps → (∀ d, x.dst = some d → d ∉ y.looks ∧ y.dst ≠ some d) ∧ (∀ d, y.dst = some d → d ∉ x.looks) ∧ ¬ (x.opc.isW = true ∧ y.opc.isW = true) := by
    intro i j x y hij hx hy hn
    have := List.all_eq_true.1 h1 (i, j) (mem_pairs hij (lt hy))
    unfold pairOk at this
    simp only [hx, hy, Bool.or_eq_true, Bool.and_eq_true] at this
    rcases this with hc | ⟨⟨c1, c2⟩, c3⟩
    · exact absurd (by simpa using hc) hn
    · refine ⟨fun d hd => ?_, fun d hd => ?_, ?_⟩
      · rw [hd] at c1
        simp only [Bool.and_eq_true, Bool.not_eq_true', bne_iff_ne, ne_eq] at c1
        exact ⟨by simpa using c1.1, c1.2⟩
      · rw [hd] at c2
        simpa using c2
      · intro hww
        simp [hww.1, hww.2] at c3
  refine ⟨fun i j x y hij hx hy hn => ⟨(pk i j x y hij hx hy hn).1, (pk i j x y hij hx hy hn).2.1⟩, fun i j x y hij hx hy w1 w2 => ?_, fun i x hx d hd => ?_⟩
  · by_cases hn : i ∈ y.deps
    · exact hn
    · exact absurd ⟨w1, w2⟩ (pk i j x y hij hx hy hn).2.2
  · have hm : (x, i) ∈ l.zipIdx := by
      rw [List.mem_zipIdx_iff_getElem?]; exact hx
    have := List.all_eq_true.1 h2 (x, i) hm
    have := List.all_eq_true.1 this d hd
    simp only [Bool.and_eq_true, decide_eq_true_eq] at this
    refine ⟨this.1, ?_⟩
    cases hy : l[d]? with
    | none => simp [hy] at this
    | some y =>
      simp only [hy] at this
      exact ⟨y, rfl, fun q hq => by simpa using List.all_eq_true.1 this.2 q hq⟩

/-- Readers that float. -/
def FloatsOk (l : List AOper) (st : Nat → AState) (val : Nat → AV) : Prop :=
  ∀ (i j : Nat) x y ro, l[i]? = some x → l[j]? = some y → x.opc = .r ro → y.opc.isW = true → ¬ (if i < j then i ∈ y.deps else j ∈ x.deps) → wanted (st i).1 x.guard = some true →
    rsem ro (x.args.map (st i).1.ev) (st j).2 = some (val i) ∧ rsem ro (x.args.map (st i).1.ev) (st (j + 1)).2 = some (val i)

/-- Down-closed sets. -/
def Closed (l : List AOper) (D : Nat → Bool) : Prop := ∀ i x, l[i]? = some x → D i = true → ∀ d ∈ x.deps, D d = true

/-- The state when just the operations in D have run. -/
def stateOf (l : List AOper) (st : Nat → AState) (val : Nat → AV) (D : Nat → Bool) : AState := (envOf l val (st 0).1 D l.length, heapOf l st D l.length)

theorem ev_congr {e e' : Env} {o : AOper} (h : ∀ t ∈ o.looks, e t = e' t) : o.args.map e.ev = o.args.map e'.ev ∧ wanted e o.guard = wanted e' o.guard := by
  refine ⟨List.map_congr_left fun a ha => ?_, ?_⟩
  · cases a with
    | c v => rfl
    | t i =>
      refine h i ?_
      unfold AOper.looks
      exact List.mem_append.2 (.inl (List.mem_filterMap.2 ⟨.t i, ha, rfl⟩))
  · cases hg : o.guard with
    | none => rfl
    | some g =>
      obtain ⟨t, b⟩ := g
      have : e t = e' t := h t (by unfold AOper.looks; rw [hg]; exact List.mem_append.2 (.inr (by simp)))
      simp only [wanted, this]

/-- The least writer that has not run. -/
theorem least_or {p : Nat → Bool} (n : Nat) : (∀ j, j < n → p j = false) ∨ ∃ j, j < n ∧ p j = true ∧ ∀ k, k < j → p k = false := by
  induction n with
  | zero => exact .inl fun j hj => by omega
  | succ n ih =>
    rcases ih with h | ⟨j, h1, h2, h3⟩
    · cases hp : p n with
      | true => exact .inr ⟨n, by omega, hp, h⟩
      | false =>
        refine .inl fun j hj => ?_
        by_cases e : j = n
        · subst e; exact hp
        · exact h j (by omega)
    · exact .inr ⟨j, by omega, h2, h3⟩
theorem last_or {p : Nat → Bool} (n : Nat) : (∀ j, j < n → p j = false) ∨ ∃ j, j < n ∧ p j = true ∧ ∀ k, j < k → k < n → p k = false := by
  induction n with
  | zero => exact .inl fun j hj => by omega
  | succ n ih =>
    cases hp : p n with
    | true => exact .inr ⟨n, by omega, hp, fun k h1 h2 => by omega⟩
    | false =>
      rcases ih with h | ⟨j, h1, h2, h3⟩
      · refine .inl fun j hj => ?_
        by_cases e : j = n
        · subst e; exact hp
        · exact h j (by omega)
      · refine .inr ⟨j, by omega, h2, fun k q1 q2 => ?_⟩
        by_cases e : k = n
        · subst e; exact hp
        · exact h3 k q1 (by omega)

theorem isW_get {k : Nat} (h : isW l k = true) : ∃ o, l[k]? = some o ∧ o.opc.isW = true := by
  unfold isW at h
  cases hl : l[k]? with
  | none => simp [hl] at h
  | some o => simp [hl] at h; exact ⟨o, rfl, h⟩

/-- ONE OPERATION MORE: it may run, and what it gives is what the text's order gave. -/
theorem stateOf_step (r : Ran C l st val) (ck : Chk l) (fl : FloatsOk l st val) {D : Nat → Bool} (hD : Closed l D) {i : Nat} {o : AOper} (ho : l[i]? = some o) (hi : D i = false) (hr : ∀ d ∈ o.deps, D d = true) :
    aop C o (stateOf l st val D) = some (stateOf l st val (fun j => D j || j == i)) := by
  have hil : i < l.length := (List.getElem?_eq_some_iff.1 ho).1
  -- an operation behind i that waits for i has not run
  have notD : ∀ (j : Nat) y, l[j]? = some y → i ∈ y.deps → D j = false := by
    intro j y hy hm
    cases hj : D j with
    | false => rfl
    | true => rw [hD j y hy hj i hm] at hi; cases hi
  -- the temporaries that i looks at
  have look : ∀ t ∈ o.looks, (stateOf l st val D).1 t = (st i).1 t := by
    intro t ht
    have e := envOf_text r i l.length (Nat.le_refl _)
    rw [show min i l.length = i by omega] at e
    rw [← e]
    refine envOf_congr t l.length fun j y hj hy hd => ?_
    rcases Nat.lt_trichotomy j i with h | h | h
    · have : j ∈ o.deps := by
        rcases Classical.em (j ∈ o.deps) with hm | hm
        · exact hm
        · exact absurd ht ((ck.names j i y o h hy ho hm).1 t hd).1
      rw [hr j this]; simp [h]
    · subst h; rw [hi]; simp
    · have : i ∈ y.deps := by
        rcases Classical.em (i ∈ y.deps) with hm | hm
        · exact hm
        · exact absurd ht ((ck.names i j o y h ho hy hm).2 t hd)
      rw [notD j y hy this]; simp; omega
  obtain ⟨hargs, hwant⟩ := ev_congr (o := o) look
  have hst := r.step i o ho
  -- the heap that it sees
  have heapW : o.opc.isW = true → (stateOf l st val D).2 = (st i).2 := by
    intro hw
    have e := heapOf_text r i l.length (Nat.le_refl _)
    rw [show min i l.length = i by omega] at e
    rw [← e]
    refine heapOf_congr l.length fun j hj hjw => ?_
    obtain ⟨y, hy, hyw⟩ := isW_get hjw
    rcases Nat.lt_trichotomy j i with h | h | h
    · rw [hr j (ck.writers j i y o h hy ho hyw hw)]; simp [h]
    · subst h; rw [hi]; simp
    · rw [notD j y hy (ck.writers i j o y h ho hy hw hyw)]; simp; omega
  have heapR : ∀ ro, o.opc = .r ro → wanted (st i).1 o.guard = some true → rsem ro (o.args.map (st i).1.ev) (stateOf l st val D).2 = some (val i) := by
    intro ro hro hwt
    have hnw : isW l i = false := by simp [isW, ho, hro, AOpc.isW]
    have own : rsem ro (o.args.map (st i).1.ev) (st i).2 = some (val i) := by
      unfold step1 at hst
      rw [hwt] at hst
      simp only [hro, osem] at hst
      cases hq : rsem ro (o.args.map (st i).1.ev) (st i).2 with
      | none => simp [hq] at hst
      | some z => simp [hq] at hst; rw [hst.1]
    -- a writer that has run and stands behind i
    rcases last_or (p := fun j => D j && isW l j && decide (i < j)) l.length with hno | ⟨k, k1, k2, k3⟩
    · rcases least_or (p := fun j => !D j && isW l j && decide (j < i)) l.length with hno2 | ⟨j, j1, j2, j3⟩
      · -- just those ahead of i have run
        have e := heapOf_text r i l.length (Nat.le_refl _)
        rw [show min i l.length = i by omega] at e
        have : (stateOf l st val D).2 = (st i).2 := by
          rw [← e]
          refine heapOf_congr l.length fun j hj hjw => ?_
          have a1 := hno j hj
          have a2 := hno2 j hj
          simp only [hjw, Bool.and_true] at a1 a2
          rcases Nat.lt_trichotomy j i with h | h | h
          · simp only [h, decide_true, Bool.and_true, Bool.not_eq_false'] at a2; rw [a2]; simp [h]
          · subst h; rw [hjw] at hnw; cases hnw
          · simp only [h, decide_true, Bool.and_true] at a1; rw [a1]; simp; omega
        rw [this]; exact own
      · -- the least writer ahead of i that has not run
        simp only [Bool.and_eq_true, Bool.not_eq_true', decide_eq_true_eq] at j2
        obtain ⟨⟨q1, q2⟩, q3⟩ := j2
        obtain ⟨y, hy, hyw⟩ := isW_get q2
        have e := heapOf_text r j l.length (Nat.le_refl _)
        rw [show min j l.length = j by omega] at e
        have hh : (stateOf l st val D).2 = (st j).2 := by
          rw [← e]
          refine heapOf_congr l.length fun k hk hkw => ?_
          obtain ⟨z, hz, hzw⟩ := isW_get hkw
          rcases Nat.lt_trichotomy k j with h | h | h
          · have := j3 k h
            simp only [hkw, Bool.and_true] at this
            have hki : k < i := by omega
            simp only [hki, decide_true, Bool.and_true, Bool.not_eq_false'] at this
            rw [this]; simp [h]
          · subst h; rw [q1]; simp
          · have : D k = false := by
              cases hk : D k with
              | false => rfl
              | true => rw [hD k z hz hk j (ck.writers j k y z h hy hz hyw hzw)] at q1; cases q1
            rw [this]; simp; omega
        rw [hh]
        refine (fl i j o y ro ho hy hro hyw ?_ hwt).1
        rw [if_neg (by omega)]
        intro hm
        rw [hr j hm] at q1; cases q1
    · -- the last writer that has run stands behind i
      simp only [Bool.and_eq_true, decide_eq_true_eq] at k2
      obtain ⟨⟨q1, q2⟩, q3⟩ := k2
      obtain ⟨y, hy, hyw⟩ := isW_get q2
      have e := heapOf_text r (k + 1) l.length (Nat.le_refl _)
      rw [show min (k + 1) l.length = k + 1 by omega] at e
      have hh : (stateOf l st val D).2 = (st (k + 1)).2 := by
        rw [← e]
        refine heapOf_congr l.length fun j hj hjw => ?_
        obtain ⟨z, hz, hzw⟩ := isW_get hjw
        rcases Nat.lt_trichotomy j k with h | h | h
        · rw [hD k y hy q1 j (ck.writers j k z y h hz hy hzw hyw)]; simp; omega
        · subst h; rw [q1]; simp
        · have := k3 j h hj
          simp only [hjw, Bool.and_true] at this
          have hij : i < j := by omega
          simp only [hij, decide_true, Bool.and_true] at this
          rw [this]; simp; omega
      rw [hh]
      refine (fl i k o y ro ho hy hro hyw ?_ hwt).2
      rw [if_pos q3]
      intro hm
      rw [notD k y hy hm] at q1; cases q1
  -- it runs
  have hrun : step1 C o (stateOf l st val D) = some (val i, if o.opc.isW = true then (st (i + 1)).2 else (stateOf l st val D).2) := by
    unfold step1
    rw [hwant, hargs]
    unfold step1 at hst
    cases hw : wanted (st i).1 o.guard with
    | none => rw [hw] at hst; cases hst
    | some b =>
      cases b with
      | false =>
        rw [hw] at hst
        simp only [Option.some.injEq, Prod.mk.injEq] at hst ⊢
        refine ⟨hst.1, ?_⟩
        split
        · rename_i hww; rw [heapW hww, hst.2]
        · rfl
      | true =>
        rw [hw] at hst
        simp only at hst ⊢
        cases hopc : o.opc with
        | p q =>
          rw [hopc] at hst
          simp only [osem] at hst ⊢
          cases hp : psem q (o.args.map (st i).1.ev) with
          | none => simp [hp] at hst
          | some z => simp [hp] at hst; simp [hst.1, AOpc.isW]
        | r q =>
          have := heapR q hopc hw
          simp only [osem, this, AOpc.isW]
          simp
        | w q =>
          rw [hopc] at hst
          have := heapW (by rw [hopc]; rfl)
          rw [this]
          simp only [osem] at hst ⊢
          rw [hst]
          simp [AOpc.isW]
  unfold aop
  rw [hrun]
  simp only [Option.some.injEq]
  unfold stateOf
  simp only [Prod.mk.injEq]
  refine ⟨?_, ?_⟩
  · funext t
    rw [put_get]
    by_cases ht : o.dst = some t
    · rw [if_pos ht]
      -- the last to write it is i
      have : ∀ n, i < n → n ≤ l.length → envOf l val (st 0).1 (fun j => D j || j == i) n t = val i := by
        intro n
        induction n with
        | zero => intro h; omega
        | succ n ih =>
          intro h1 h2
          unfold envOf
          have hl : l[n]? = some (l[n]'(by omega)) := List.getElem?_eq_getElem _
          rw [hl]
          simp only
          by_cases hn : n = i
          · subst hn
            rw [hl] at ho
            simp at ho
            rw [if_pos (by simp), put_get, ho, if_pos ht]
          · have ih' := ih (by omega) (by omega)
            by_cases hd : (l[n]'(by omega)).dst = some t
            · have hm : i ∈ (l[n]'(by omega)).deps := by
                rcases Classical.em (i ∈ (l[n]'(by omega)).deps) with hm | hm
                · exact hm
                · exact absurd hd ((ck.names i n o _ (by omega) ho hl hm).1 t ht).2
              have := notD n _ hl hm
              rw [if_neg (by simp [this, hn])]
              exact ih'
            · split
              · rw [put_get, if_neg hd]; exact ih'
              · exact ih'
      rw [this l.length hil (Nat.le_refl _)]
    · rw [if_neg ht]
      refine envOf_congr t l.length fun j y hj hy hd => ?_
      by_cases e : j = i
      · subst e; rw [hy] at ho; simp at ho; subst ho; exact absurd hd ht
      · simp [e]
  · split
    · rename_i hw
      have e := heapOf_text r (i + 1) l.length (Nat.le_refl _)
      rw [show min (i + 1) l.length = i + 1 by omega] at e
      rw [← e]
      refine heapOf_congr l.length fun j hj hjw => ?_
      obtain ⟨y, hy, hyw⟩ := isW_get hjw
      rcases Nat.lt_trichotomy j i with h | h | h
      · rw [hr j (ck.writers j i y o h hy ho hyw hw)]; simp; omega
      · subst h; simp
      · rw [notD j y hy (ck.writers i j o y h ho hy hw hyw)]
        have : (j == i) = false := by simp; omega
        rw [this]; simp; omega
    · rename_i hw
      refine heapOf_congr l.length fun j hj hjw => ?_
      by_cases e : j = i
      · subst e; simp [isW, ho] at hjw; exact absurd hjw hw
      · simp [e]

theorem stateOf_all (r : Ran C l st val) {D : Nat → Bool} (h : ∀ j, j < l.length → D j = true) : stateOf l st val D = st l.length := by
  have e1 := envOf_text r l.length l.length (Nat.le_refl _)
  have e2 := heapOf_text r l.length l.length (Nat.le_refl _)
  rw [Nat.min_self] at e1 e2
  unfold stateOf
  refine Prod.ext ?_ ?_
  · show envOf l val (st 0).1 D l.length = (st l.length).1
    rw [← e1]
    funext t
    exact envOf_congr t l.length fun j y hj hy hd => by rw [h j hj]; simp [hj]
  · show heapOf l st D l.length = (st l.length).2
    rw [← e2]
    exact heapOf_congr l.length fun j hj hjw => by rw [h j hj]; simp [hj]

theorem stateOf_none : stateOf l st val (fun _ => false) = st 0 := by
  have e1 : ∀ n, envOf l val (st 0).1 (fun _ => false) n = (st 0).1 := by
    intro n
    induction n with
    | zero => rfl
    | succ n ih => unfold envOf; cases l[n]? <;> simp [ih]
  have e2 : ∀ n, heapOf l st (fun _ => false) n = (st 0).2 := by
    intro n
    induction n with
    | zero => rfl
    | succ n ih => unfold heapOf; simp [ih]
  unfold stateOf
  rw [e1, e2]

/-! ### The trace as a run -/
theorem trace_ran : ∀ (l : List AOper) (s : AState) (tr : List AState), atrace C l s = some tr →
    tr.length = l.length + 1 ∧ tr[0]? = some s ∧ ∀ (i : Nat) o, l[i]? = some o → ∃ s1 s2, tr[i]? = some s1 ∧ tr[i + 1]? = some s2 ∧ aop C o s1 = some s2
  | [], s, tr, h => by
    simp [atrace] at h; subst h
    exact ⟨rfl, rfl, fun i o hi => by simp at hi⟩
  | o :: os, s, tr, h => by
    unfold atrace at h
    cases h1 : aop C o s with
    | none => simp [h1] at h
    | some s' =>
      cases h2 : atrace C os s' with
      | none => simp [h1, h2] at h
      | some l' =>
        simp [h1, h2] at h
        subst h
        obtain ⟨k1, k2, k3⟩ := trace_ran os s' l' h2
        refine ⟨by simp [k1], rfl, fun i q hi => ?_⟩
        cases i with
        | zero => simp at hi; subst hi; exact ⟨s, s', rfl, by simpa using k2, h1⟩
        | succ i => simpa using k3 i q (by simpa using hi)

/-- The trace, with its states and values. -/
theorem ran_of {l : List AOper} {s s' : AState} (h : ∃ tr, atrace C l s = some tr ∧ tr.getLast? = some s' ∧ (floatsOf l).all (floatOk l tr) = true) :
    ∃ st val, Ran C l st val ∧ st 0 = s ∧ st l.length = s' ∧ FloatsOk l st val := by
  obtain ⟨tr, h1, h2, h3⟩ := h
  obtain ⟨k1, k2, k3⟩ := trace_ran l s tr h1
  let st : Nat → AState := fun i => (tr[i]?).getD s
  let val : Nat → AV := fun i => match l[i]? with | some o => (match step1 C o (st i) with | some (v, _) => v | none => .undef) | none => .undef
  have hst : ∀ (i : Nat) x, tr[i]? = some x → st i = x := fun i x hx => by show (tr[i]?).getD s = x; rw [hx]; rfl
  have ran : Ran C l st val := by
    refine ⟨fun i o ho => ?_, fun i o ho => ?_⟩
    · obtain ⟨s1, s2, q1, q2, q3⟩ := k3 i o ho
      rw [hst _ _ q1, hst _ _ q2]
      unfold aop at q3
      cases hs : step1 C o s1 with
      | none => simp [hs] at q3
      | some p =>
        obtain ⟨v, Hx⟩ := p
        simp [hs] at q3
        have : val i = v := by show (match l[i]? with | some o => _ | none => _) = v; rw [ho]; simp only [hst _ _ q1, hs]
        rw [this, ← q3]
    · obtain ⟨s1, s2, q1, q2, q3⟩ := k3 i o ho
      rw [hst _ _ q1, hst _ _ q2]
      unfold aop at q3
      cases hs : step1 C o s1 with
      | none => simp [hs] at q3
      | some p =>
        obtain ⟨v, Hx⟩ := p
        simp [hs] at q3
        have : val i = v := by show (match l[i]? with | some o => _ | none => _) = v; rw [ho]; simp only [hst _ _ q1, hs]
        rw [this, ← q3]
  refine ⟨st, val, ran, hst 0 s k2, hst l.length s' ?_, ?_⟩
  · rw [List.getLast?_eq_getElem?, k1] at h2; simpa using h2
  · intro i j x y ro hx hy hro hyw hun hwt
    have hil : i < l.length := (List.getElem?_eq_some_iff.1 hx).1
    have hjl : j < l.length := (List.getElem?_eq_some_iff.1 hy).1
    have hne : i ≠ j := by intro e; subst e; rw [hx] at hy; simp at hy; subst hy; rw [hro] at hyw; simp [AOpc.isW] at hyw
    have hmem : (i, j) ∈ floatsOf l := by
      unfold floatsOf
      rw [List.mem_filterMap]
      rcases Nat.lt_or_gt_of_ne hne with h | h
      · rw [if_pos h] at hun
        refine ⟨(i, j), mem_pairs h hjl, ?_⟩
        simp only [hx, hy]
        rw [if_neg (by simpa using hun), if_pos (by simp [hro, AOpc.isR, hyw])]
      · rw [if_neg (by omega)] at hun
        refine ⟨(j, i), mem_pairs h hil, ?_⟩
        simp only [hx, hy]
        rw [if_neg (by simpa using hun), if_neg (by simp [hro, AOpc.isW]), if_pos (by simp [hro, AOpc.isR, hyw])]
    have := List.all_eq_true.1 h3 (i, j) hmem
    obtain ⟨s1, s2, q1, q2, q3⟩ := k3 i x hx
    obtain ⟨t1, t2, p1, p2, p3⟩ := k3 j y hy
    unfold floatOk at this
    simp only [hx, q1, p1, p2, hro] at this
    rw [hst _ _ q1] at hwt
    rw [if_pos hwt] at this
    rw [hst _ _ q1, hst _ _ p1, hst _ _ p2]
    have hval : rsem ro (x.args.map s1.1.ev) s1.2 = some (val i) := by
      have := ran.step i x hx
      rw [hst _ _ q1] at this
      unfold step1 at this
      rw [hwt] at this
      simp only [hro, osem] at this
      cases hq : rsem ro (x.args.map s1.1.ev) s1.2 with
      | none => simp [hq] at this
      | some z => simp [hq] at this; rw [this.1]
    rw [hval] at this
    cases e1 : rsem ro (x.args.map s1.1.ev) t1.2 with
    | none => simp [e1] at this
    | some z1 =>
      cases e2 : rsem ro (x.args.map s1.1.ev) t2.2 with
      | none => simp [e1, e2] at this
      | some z2 =>
        simp only [e1, e2, Bool.and_eq_true] at this
        exact ⟨by rw [AV.same_eq _ _ this.1], by rw [AV.same_eq _ _ this.2]⟩

end
end Go.Am
