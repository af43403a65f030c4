/- How the small machine's code is walked: more fuel does no harm, and rules that step through code, region by region, loop by loop, call by call. -/
import Derived.Test.YtdgkaachkodimaaDoorAmDefs
set_option linter.unusedVariables false
set_option linter.unusedSimpArgs false
namespace Go.Am
/-! ### More fuel -/
def CLe (C D : CallF) : Prop := ∀ f args H r, C f args H = some r → D f args H = some r
theorem wsem_other {C D : CallF} {o : WOp} (ho : o ≠ .call) {vs : List AV} {H : AHeap} : wsem C o vs H = wsem D o vs H := by
  unfold wsem
  split <;> first
    | rfl
    | exact absurd rfl ho
theorem wsem_mono {C D : CallF} (h : CLe C D) {o : WOp} {vs : List AV} {H : AHeap} {r : AV × AHeap} (hr : wsem C o vs H = some r) : wsem D o vs H = some r := by
  by_cases ho : o = .call
  · subst ho
    cases vs with
    | nil => simp [wsem] at hr
    | cons v vs =>
      cases v <;> first
        | exact h _ _ _ _ hr
        | (simp [wsem] at hr)
  · rw [wsem_other ho]; exact hr
theorem osem_mono {C D : CallF} (h : CLe C D) {o : AOpc} {vs : List AV} {H : AHeap} {r : AV × AHeap} (hr : osem C o vs H = some r) : osem D o vs H = some r := by
  cases o with
  | p o => exact hr
  | r o => exact hr
  | w o => exact wsem_mono h hr
theorem step1_mono {C D : CallF} (h : CLe C D) {o : AOper} {s : AState} {r : AV × AHeap} (hr : step1 C o s = some r) : step1 D o s = some r := by
  unfold step1 at hr ⊢
  cases hw : wanted s.1 o.guard with
  | none => simp [hw] at hr
  | some b =>
    rw [hw] at hr
    cases b with
    | false => exact hr
    | true => exact osem_mono h hr
theorem aop_mono {C D : CallF} (h : CLe C D) {o : AOper} {s r : AState} (hr : aop C o s = some r) : aop D o s = some r := by
  unfold aop at hr ⊢
  cases h1 : step1 C o s with
  | none => simp [h1] at hr
  | some p => rw [step1_mono h h1]; rw [h1] at hr; exact hr
theorem aops_mono {C D : CallF} (h : CLe C D) : ∀ {l : List AOper} {s r : AState}, aops C l s = some r → aops D l s = some r
  | [], s, r, hr => hr
  | o :: l, s, r, hr => by
    unfold aops at hr ⊢
    cases h1 : aop C o s with
    | none => simp [h1] at hr
    | some p => rw [aop_mono h h1]; rw [h1] at hr; exact aops_mono h hr
theorem atrace_mono {C D : CallF} (h : CLe C D) : ∀ {l : List AOper} {s : AState} {r : List AState}, atrace C l s = some r → atrace D l s = some r
  | [], s, r, hr => hr
  | o :: l, s, r, hr => by
    unfold atrace at hr ⊢
    cases h1 : aop C o s with
    | none => simp [h1] at hr
    | some p =>
      rw [aop_mono h h1]
      simp only [h1] at hr ⊢
      cases h2 : atrace C l p with
      | none => simp [h2] at hr
      | some q => rw [atrace_mono h h2]; simpa [h2] using hr
theorem aregion_mono {C D : CallF} (h : CLe C D) {l : List AOper} {fl : List (Nat × Nat)} {s r : AState} (hr : aregion C l fl s = some r) : aregion D l fl s = some r := by
  unfold aregion at hr ⊢
  cases fl with
  | nil => exact aops_mono h hr
  | cons f fl =>
    simp only at hr ⊢
    cases h1 : atrace C l s with
    | none => simp [h1] at hr
    | some tr => rw [atrace_mono h h1]; simpa only [h1] using hr
theorem roundF_mono {A A' B B' : AState → Option (AExit × AState)} (hA : ∀ s r, A s = some r → A' s = some r) (hB : ∀ s r, B s = some r → B' s = some r) {ps : List Nat} {e : Env} (vs : List AV) (H : AHeap) (r : AV × AHeap) (hr : roundF A B ps e vs H = some r) : roundF A' B' ps e vs H = some r := by
  unfold roundF at hr ⊢
  split at hr
  · rename_i hl
    rw [if_pos hl]
    cases h1 : A (upd (putAll e ps vs) dfrT .undef, H) with
    | none => rw [h1] at hr; cases hr
    | some p =>
      rw [hA _ _ h1]
      rw [h1] at hr
      obtain ⟨x, s1⟩ := p
      cases x with
      | normal =>
        simp only at hr ⊢
        cases h2 : B s1 with
        | none => rw [h2] at hr; cases hr
        | some q => rw [hB _ _ h2]; rw [h2] at hr; exact hr
      | exit i => cases hr
      | ret => cases hr
  · cases hr
theorem yldC_mono {C D : CallF} (h : CLe C D) {y : Nat} {R R' : List AV → AHeap → Option (AV × AHeap)} (hR : ∀ vs H r, R vs H = some r → R' vs H = some r) : CLe (yldC C y R) (yldC D y R') := by
  intro f args H r hr
  unfold yldC at hr ⊢
  split at hr
  · rename_i e
    rw [if_pos e]
    split at hr
    · split at hr
      · rename_i e2; rw [if_pos e2]; exact hR _ _ _ hr
      · cases hr
    · cases hr
  · rename_i e
    rw [if_neg e]; exact h _ _ _ _ hr
theorem acode_mono {F : Nat → Option AFunc} {C D : CallF} (h : CLe C D) : ∀ {n m : Nat} {c : ACode} {s : AState} {r : AExit × AState}, n ≤ m → acode F C n c s = some r → acode F D m c s = some r := by
  intro n
  induction n generalizing C D with
  | zero => intro m c s r _ hr; simp [acode] at hr
  | succ n ih =>
    intro m c s r hm hr
    obtain ⟨m, rfl⟩ : ∃ k, m = k + 1 := ⟨m - 1, by omega⟩
    have hm : n ≤ m := by omega
    cases c with
    | skip => exact hr
    | rngf g ps asg body =>
      simp only [acode] at hr ⊢
      cases hg : s.1.ev g <;> rw [hg] at hr <;> first
        | (cases hr; done)
        | skip
      rename_i f first caps
      simp only at hr ⊢
      cases hF : F f with
      | none => simp [hF] at hr
      | some fn =>
        simp only [hF] at hr ⊢
        cases h1 : acode F (yldC C (s.2.next + 1) (roundF (acode F C n asg) (acode F C n body) ps s.1)) n fn.body (fun i => if i = dfrT then .undef else (first ++ [AV.yld (s.2.next + 1)] ++ caps).getD i .undef, s.2.newLoop) with
        | none => rw [h1] at hr; simp [iterEnd] at hr
        | some p =>
          have hp : CLe (yldC C (s.2.next + 1) (roundF (acode F C n asg) (acode F C n body) ps s.1)) (yldC D (s.2.next + 1) (roundF (acode F D m asg) (acode F D m body) ps s.1)) :=
            yldC_mono h (roundF_mono (fun _ _ k => ih h hm k) (fun _ _ k => ih h hm k))
          rw [ih hp hm h1, ← h1]; exact hr
    | region ops d fl =>
      simp only [acode] at hr ⊢
      cases h1 : aregion C ops fl s with
      | none => simp [h1] at hr
      | some s' => rw [aregion_mono h h1]; simpa only [h1] using hr
    | seq a b =>
      simp only [acode] at hr ⊢
      cases h1 : acode F C n a s with
      | none => simp [h1] at hr
      | some p =>
        obtain ⟨x, s'⟩ := p
        rw [ih h hm h1]
        rw [h1] at hr
        cases x with
        | normal => exact ih h hm hr
        | exit i => exact hr
        | ret => exact hr
    | cond c a b =>
      simp only [acode] at hr ⊢
      cases h1 : s.1.ev c <;> rw [h1] at hr <;> first
        | (cases hr; done)
        | skip
      rename_i x
      cases x with
      | true => exact ih h hm hr
      | false => exact ih h hm hr
    | block id b =>
      simp only [acode] at hr ⊢
      cases h1 : acode F C n b s with
      | none => simp [h1] at hr
      | some p =>
        obtain ⟨x, s'⟩ := p
        rw [ih h hm h1]
        rw [h1] at hr
        exact hr
    | loop b =>
      simp only [acode] at hr ⊢
      cases h1 : acode F C n b s with
      | none => simp [h1] at hr
      | some p =>
        obtain ⟨x, s'⟩ := p
        rw [ih h hm h1]
        rw [h1] at hr
        cases x with
        | normal => exact ih h hm hr
        | exit i => exact hr
        | ret => exact hr
    | exit id => exact hr
    | ret => exact hr
/-- The functions of a program, and what is told of some. -/
structure Tab where
  fn : Nat → Option AFunc
  prim : Nat → Option (List AV → AHeap → Option (AV × AHeap))
variable {T : Tab}
abbrev Tab.call (T : Tab) (n : Nat) : CallF := acall T.fn T.prim n
theorem dcall_mono {F : Nat → Option AFunc} {C D : CallF} (h : CLe C D) {n m : Nat} (hm : n ≤ m) {f : Nat} {args : List AV} {H H' : AHeap} (hr : dcall F C n f args H = some H') : dcall F D m f args H = some H' := by
  unfold dcall at hr ⊢
  cases hf : F f with
  | none => simp [hf] at hr
  | some fn =>
    simp only [hf] at hr ⊢
    cases h1 : acode F C n fn.body (fun i => if i = dfrT then .undef else args.getD i .undef, H) with
    | none => simp only [h1] at hr; cases hr
    | some p => rw [acode_mono h hm h1]; simpa only [h1] using hr
theorem rundL_mono {D D' : Nat → List AV → AHeap → Option AHeap} (h : ∀ f args H r, D f args H = some r → D' f args H = some r) : ∀ {l : List AV} {H r : AHeap}, rundL D l H = some r → rundL D' l H = some r
  | [], H, r, hr => hr
  | v :: l, H, r, hr => by
    rcases rundL_cons hr with ⟨f, as, caps, H1, rfl, h1, h2⟩ | ⟨b, rfl, h1, h2⟩
    · simp only [rundL]; rw [h _ _ _ _ h1]; exact rundL_mono h h2
    · simp only [rundL]; rw [h1]; exact rundL_mono h h2
theorem rund_mono {D D' : Nat → List AV → AHeap → Option AHeap} (h : ∀ f args H r, D f args H = some r → D' f args H = some r) {v : AV} {H r : AHeap} (hr : rund D v H = some r) : rund D' v H = some r := by
  cases v <;> simp only [rund, reduceCtorEq] at hr ⊢
  · exact hr
  · exact rundL_mono h hr
/-- What stands behind a function's code. -/
def behind (D : Nat → List AV → AHeap → Option AHeap) (res : List ARes) (s : AState) : Option (AV × AHeap) :=
  match rund D (s.1 dfrT) s.2 with
  | some H' => match ares s.1 H' res with | some vs => some (one vs, H') | none => none
  | none => none
theorem behind_mono {D D' : Nat → List AV → AHeap → Option AHeap} (h : ∀ f args H r, D f args H = some r → D' f args H = some r) {res : List ARes} {s : AState} {r : AV × AHeap} (hr : behind D res s = some r) : behind D' res s = some r := by
  unfold behind at hr ⊢
  cases h1 : rund D (s.1 dfrT) s.2 with
  | none => simp [h1] at hr
  | some H' => rw [h1] at hr; rw [rund_mono h h1]; exact hr
/-- The first environment. -/
def env0 (args : List AV) : Env := fun i => if i = dfrT then .undef else args.getD i .undef
theorem acall_eq {F : Nat → Option AFunc} {prims : Nat → Option (List AV → AHeap → Option (AV × AHeap))} {n f : Nat} {args : List AV} {H : AHeap} {fn : AFunc} (hp : told (prims f) args H = none) (hf : F f = some fn) :
    acall F prims (n + 1) f args H = match acode F (acall F prims n) (n + 1) fn.body (env0 args, H) with
      | some (.normal, s) | some (.ret, s) => behind (dcall F (acall F prims n) n) fn.results s
      | _ => none := by
  conv => lhs; unfold acall
  simp only [hp, hf]
  rfl
theorem acall_mono : ∀ {n m : Nat}, n ≤ m → CLe (T.call n) (T.call m)
  | 0, m, _ => by intro f args H r h; simp [Tab.call, acall] at h
  | n + 1, m, hm => by
    obtain ⟨m, rfl⟩ : ∃ k, m = k + 1 := ⟨m - 1, by omega⟩
    have ih := @acall_mono n m (by omega)
    intro f args H r h
    simp only [Tab.call] at h ⊢
    cases hp : told (T.prim f) args H with
    | some p => unfold acall at h ⊢; rw [hp] at h ⊢; exact h
    | none =>
      cases hf : T.fn f with
      | none => unfold acall at h; rw [hp] at h; simp [hf] at h
      | some fn =>
        rw [acall_eq hp hf] at h ⊢
        have hd : ∀ f args H r, dcall T.fn (acall T.fn T.prim n) n f args H = some r → dcall T.fn (acall T.fn T.prim m) m f args H = some r := fun f args H r hr => dcall_mono ih (by omega) hr
        cases h1 : acode T.fn (acall T.fn T.prim n) (n + 1) fn.body (env0 args, H) with
        | none => simp only [h1] at h; cases h
        | some p =>
          rw [acode_mono ih (by omega) h1]
          simp only [h1] at h ⊢
          obtain ⟨x, s⟩ := p
          cases x with
          | normal => exact behind_mono hd h
          | ret => exact behind_mono hd h
          | exit id => cases h
/-! ### What is walked -/
def Calls (T : Tab) (f : Nat) (args : List AV) (H : AHeap) (Q : AV → AHeap → Prop) : Prop := ∃ n v H', T.call n f args H = some (v, H') ∧ Q v H'
/-- What a walk goes on: functions' texts, and calls with a bound. -/
structure Mach where
  fn : Nat → Option AFunc
  call : Nat → CallF
  mono : ∀ {n m : Nat}, n ≤ m → CLe (call n) (call m)
abbrev Tab.mach (T : Tab) : Mach := ⟨T.fn, T.call, fun h => acall_mono h⟩
instance : Coe Tab Mach := ⟨Tab.mach⟩
section
variable {T : Mach}
def AC (T : Mach) (c : ACode) (s : AState) (R : AExit → AState → Prop) : Prop := ∃ n x s', acode T.fn (T.call n) n c s = some (x, s') ∧ R x s'
theorem AC.imp {c : ACode} {s : AState} {R R' : AExit → AState → Prop} (h : AC T c s R) (k : ∀ x s, R x s → R' x s) : AC T c s R' := by
  obtain ⟨n, x, s', h1, h2⟩ := h
  exact ⟨n, x, s', h1, k _ _ h2⟩
inductive Fm where
  | seq (c : ACode)
  | block (id : Nat)
def Wk (T : Mach) : List Fm → AExit → AState → (AExit → AState → Prop) → Prop
  | [], x, s, R => R x s
  | .seq c :: k, x, s, R => match x with
    | .normal => AC T c s (fun x s => Wk T k x s R)
    | x => Wk T k x s R
  | .block id :: k, x, s, R => match x with
    | .exit i => if i = id then Wk T k .normal s R else Wk T k (.exit i) s R
    | x => Wk T k x s R
def W (T : Mach) (c : ACode) (k : List Fm) (s : AState) (R : AExit → AState → Prop) : Prop := AC T c s (fun x s => Wk T k x s R)
theorem Wk.imp {R R' : AExit → AState → Prop} (hR : ∀ x s, R x s → R' x s) : ∀ {k : List Fm} {x : AExit} {s : AState}, Wk T k x s R → Wk T k x s R'
  | [], x, s, h => hR _ _ h
  | .seq c :: k, x, s, h => by
    cases x with
    | normal => exact AC.imp h fun x s h => Wk.imp hR h
    | exit i => exact Wk.imp (k := k) hR h
    | ret => exact Wk.imp (k := k) hR h
  | .block id :: k, x, s, h => by
    cases x with
    | normal => exact Wk.imp (k := k) hR h
    | ret => exact Wk.imp (k := k) hR h
    | exit i =>
      simp only [Wk] at h ⊢
      split
      · rename_i e; rw [if_pos e] at h; exact Wk.imp hR h
      · rename_i e; rw [if_neg e] at h; exact Wk.imp hR h
theorem W.imp {R R' : AExit → AState → Prop} (hR : ∀ x s, R x s → R' x s) {c : ACode} {k : List Fm} {s : AState} (h : W T c k s R) : W T c k s R' := AC.imp h fun x s h => Wk.imp hR h
section
variable {k : List Fm} {s : AState} {R : AExit → AState → Prop}
@[simp] theorem Wk_nil {x : AExit} : Wk T [] x s R = R x s := rfl
@[simp] theorem Wk_seq {c : ACode} : Wk T (.seq c :: k) .normal s R = W T c k s R := rfl
@[simp] theorem Wk_seq_exit {c : ACode} {i : Nat} : Wk T (.seq c :: k) (.exit i) s R = Wk T k (.exit i) s R := rfl
@[simp] theorem Wk_seq_ret {c : ACode} : Wk T (.seq c :: k) .ret s R = Wk T k .ret s R := rfl
@[simp] theorem Wk_block {id : Nat} : Wk T (.block id :: k) .normal s R = Wk T k .normal s R := rfl
@[simp] theorem Wk_block_ret {id : Nat} : Wk T (.block id :: k) .ret s R = Wk T k .ret s R := rfl
@[simp] theorem Wk_block_exit {id i : Nat} : Wk T (.block id :: k) (.exit i) s R = if i = id then Wk T k .normal s R else Wk T k (.exit i) s R := rfl
theorem AC_one {c : ACode} {x : AExit} {s' : AState} {R : AExit → AState → Prop} (h : ∀ F C n, acode F C (n + 1) c s = some (x, s')) : AC T c s R ↔ R x s' := by
  constructor
  · rintro ⟨n, y, t, h1, h2⟩
    cases n with
    | zero => simp [acode] at h1
    | succ n =>
      rw [h] at h1
      simp only [Option.some.injEq, Prod.mk.injEq] at h1
      obtain ⟨rfl, rfl⟩ := h1
      exact h2
  · intro h2; exact ⟨1, x, s', h _ _ _, h2⟩
@[simp] theorem W_skip : W T .skip k s R ↔ Wk T k .normal s R := AC_one fun _ _ _ => rfl
@[simp] theorem W_exit {id : Nat} : W T (.exit id) k s R ↔ Wk T k (.exit id) s R := AC_one fun _ _ _ => rfl
@[simp] theorem W_ret : W T .ret k s R ↔ Wk T k .ret s R := AC_one fun _ _ _ => rfl
@[simp] theorem W_seq {a b : ACode} : W T (.seq a b) k s R ↔ W T a (.seq b :: k) s R := by
  constructor
  · rintro ⟨n, x, s', h1, h2⟩
    cases n with
    | zero => simp [acode] at h1
    | succ n =>
      simp only [acode] at h1
      cases h3 : acode T.fn (T.call (n + 1)) n a s with
      | none => simp [h3] at h1
      | some p =>
        obtain ⟨y, t⟩ := p
        rw [h3] at h1
        refine ⟨n + 1, y, t, acode_mono (fun _ _ _ _ h => h) (by omega) h3, ?_⟩
        cases y with
        | normal =>
          simp only at h1
          exact ⟨n + 1, x, s', acode_mono (fun _ _ _ _ h => h) (by omega) h1, h2⟩
        | exit i => simp at h1; obtain ⟨rfl, rfl⟩ := h1; exact h2
        | ret => simp at h1; obtain ⟨rfl, rfl⟩ := h1; exact h2
  · rintro ⟨n, x, s', h1, h2⟩
    cases x with
    | normal =>
      obtain ⟨m, y, t, h3, h4⟩ := h2
      refine ⟨max n m + 1, y, t, ?_, h4⟩
      simp only [acode]
      rw [acode_mono (D := T.call (max n m + 1)) (T.mono (by omega)) (m := max n m) (by omega) h1]
      exact acode_mono (T.mono (by omega)) (by omega) h3
    | exit i =>
      refine ⟨n + 1, _, _, ?_, h2⟩
      simp only [acode]
      rw [acode_mono (D := T.call (n + 1)) (T.mono (by omega)) (m := n) (by omega) h1]
    | ret =>
      refine ⟨n + 1, _, _, ?_, h2⟩
      simp only [acode]
      rw [acode_mono (D := T.call (n + 1)) (T.mono (by omega)) (m := n) (by omega) h1]
@[simp] theorem W_block {id : Nat} {b : ACode} : W T (.block id b) k s R ↔ W T b (.block id :: k) s R := by
  constructor
  · rintro ⟨n, x, s', h1, h2⟩
    cases n with
    | zero => simp [acode] at h1
    | succ n =>
      simp only [acode] at h1
      cases h3 : acode T.fn (T.call (n + 1)) n b s with
      | none => simp [h3] at h1
      | some p =>
        obtain ⟨y, t⟩ := p
        rw [h3] at h1
        refine ⟨n + 1, y, t, acode_mono (fun _ _ _ _ h => h) (by omega) h3, ?_⟩
        cases y with
        | normal => simp at h1; obtain ⟨rfl, rfl⟩ := h1; exact h2
        | ret => simp at h1; obtain ⟨rfl, rfl⟩ := h1; exact h2
        | exit i =>
          simp only at h1
          simp only [Wk_block_exit]
          split
          · rename_i e; rw [if_pos e] at h1; simp at h1; obtain ⟨rfl, rfl⟩ := h1; exact h2
          · rename_i e; rw [if_neg e] at h1; simp at h1; obtain ⟨rfl, rfl⟩ := h1; exact h2
  · rintro ⟨n, x, s', h1, h2⟩
    have h3 := acode_mono (D := T.call (n + 1)) (T.mono (by omega)) (m := n) (by omega) h1
    cases x with
    | normal => exact ⟨n + 1, _, _, by simp only [acode]; rw [h3], h2⟩
    | ret => exact ⟨n + 1, _, _, by simp only [acode]; rw [h3], h2⟩
    | exit i =>
      simp only [Wk_block_exit] at h2
      split at h2
      · rename_i e; exact ⟨n + 1, _, _, by simp only [acode]; rw [h3]; simp only; rw [if_pos e], h2⟩
      · rename_i e; exact ⟨n + 1, _, _, by simp only [acode]; rw [h3]; simp only; rw [if_neg e], h2⟩
/-- A choice. -/
def WB (T : Mach) (v : AV) (a b : ACode) (k : List Fm) (s : AState) (R : AExit → AState → Prop) : Prop :=
  match v with
  | .bool true => W T a k s R
  | .bool false => W T b k s R
  | _ => False
@[simp] theorem WB_true {a b : ACode} : WB T (.bool true) a b k s R = W T a k s R := rfl
@[simp] theorem WB_false {a b : ACode} : WB T (.bool false) a b k s R = W T b k s R := rfl
theorem WB.bool {x : Bool} {a b : ACode} (h1 : x = true → W T a k s R) (h2 : x = false → W T b k s R) : WB T (.bool x) a b k s R := by
  cases x with
  | true => exact h1 rfl
  | false => exact h2 rfl
@[simp] theorem W_cond {c : AOpd} {a b : ACode} : W T (.cond c a b) k s R ↔ WB T (s.1.ev c) a b k s R := by
  constructor
  · rintro ⟨n, x, s', h1, h2⟩
    cases n with
    | zero => simp [acode] at h1
    | succ n =>
      simp only [acode] at h1
      cases h3 : s.1.ev c <;> rw [h3] at h1 <;> first
        | (cases h1; done)
        | skip
      rename_i y
      cases y with
      | true => exact ⟨n + 1, x, s', acode_mono (fun _ _ _ _ h => h) (by omega) h1, h2⟩
      | false => exact ⟨n + 1, x, s', acode_mono (fun _ _ _ _ h => h) (by omega) h1, h2⟩
  · intro h
    cases h3 : s.1.ev c <;> rw [h3] at h <;> first
      | (exact h.elim)
      | skip
    rename_i y
    cases y with
    | true =>
      obtain ⟨n, x, s', h1, h2⟩ := h
      exact ⟨n + 1, x, s', by simp only [acode, h3]; exact acode_mono (T.mono (by omega)) (by omega) h1, h2⟩
    | false =>
      obtain ⟨n, x, s', h1, h2⟩ := h
      exact ⟨n + 1, x, s', by simp only [acode, h3]; exact acode_mono (T.mono (by omega)) (by omega) h1, h2⟩
end
/-! ### Regions -/
def WO (T : Mach) (os : List AOper) (e : Env) (H : AHeap) (k : List Fm) (R : AExit → AState → Prop) : Prop := ∃ n s', aops (T.call n) os (e, H) = some s' ∧ Wk T k .normal s' R
section
variable {k : List Fm} {e : Env} {H : AHeap} {R : AExit → AState → Prop} {os : List AOper} {d : Option Nat}
@[simp] theorem W_region {ops : List AOper} {dr : Bool} : W T (.region ops dr []) k (e, H) R ↔ WO T ops e H k R := by
  constructor
  · rintro ⟨n, x, s', h1, h2⟩
    cases n with
    | zero => simp [acode] at h1
    | succ n =>
      simp only [acode, aregion] at h1
      cases h3 : aops (T.call (n + 1)) ops (e, H) with
      | none => simp [h3] at h1
      | some t => simp [h3] at h1; obtain ⟨rfl, rfl⟩ := h1; exact ⟨n + 1, t, h3, h2⟩
  · rintro ⟨n, s', h1, h2⟩
    refine ⟨n + 1, .normal, s', ?_, h2⟩
    simp only [acode, aregion]
    rw [aops_mono (T.mono (by omega)) h1]
@[simp] theorem WO_nil : WO T [] e H k R ↔ Wk T k .normal (e, H) R := by
  constructor
  · rintro ⟨n, s', h1, h2⟩; simp [aops] at h1; subst h1; exact h2
  · intro h; exact ⟨0, _, rfl, h⟩
/-- An operation that runs. -/
def WX (T : Mach) (o : AOpc) (vs : List AV) (d : Option Nat) (os : List AOper) (e : Env) (H : AHeap) (k : List Fm) (R : AExit → AState → Prop) : Prop :=
  ∃ n v H', osem (T.call n) o vs H = some (v, H') ∧ WO T os (e.put d v) H' k R
/-- An operation that may run. -/
def WA (T : Mach) (w : Option Bool) (o : AOpc) (vs : List AV) (d : Option Nat) (os : List AOper) (e : Env) (H : AHeap) (k : List Fm) (R : AExit → AState → Prop) : Prop :=
  match w with
  | some true => WX T o vs d os e H k R
  | some false => WO T os (e.put d (.tup [])) H k R
  | none => False
@[simp] theorem WA_true {o : AOpc} {vs : List AV} : WA T (some true) o vs d os e H k R = WX T o vs d os e H k R := rfl
@[simp] theorem WA_false {o : AOpc} {vs : List AV} : WA T (some false) o vs d os e H k R = WO T os (e.put d (.tup [])) H k R := rfl
theorem WA.bool {x : Bool} {o : AOpc} {vs : List AV} (h1 : x = true → WX T o vs d os e H k R) (h2 : x = false → WO T os (e.put d (.tup [])) H k R) : WA T (some x) o vs d os e H k R := by
  cases x with
  | true => exact h1 rfl
  | false => exact h2 rfl
theorem WO_cons {o : AOper} : WO T (o :: os) e H k R ↔ WA T (wanted e o.guard) o.opc (o.args.map e.ev) o.dst os e H k R := by
  constructor
  · rintro ⟨n, s', h1, h2⟩
    unfold aops aop step1 at h1
    cases hw : wanted e o.guard with
    | none => simp [hw] at h1
    | some b =>
      cases b with
      | false =>
        simp only [hw] at h1
        exact ⟨n, s', h1, h2⟩
      | true =>
        simp only [hw] at h1
        cases h3 : osem (T.call n) o.opc (o.args.map e.ev) H with
        | none => simp [h3] at h1
        | some p => simp only [h3] at h1; exact ⟨n, p.1, p.2, h3, n, s', h1, h2⟩
  · intro h
    cases hw : wanted e o.guard with
    | none => rw [hw] at h; exact h.elim
    | some b =>
      rw [hw] at h
      cases b with
      | false =>
        obtain ⟨n, s', h1, h2⟩ := h
        refine ⟨n, s', ?_, h2⟩
        unfold aops aop step1
        simp only [hw]
        exact h1
      | true =>
        obtain ⟨n, v, H', h1, m, s', h2, h3⟩ := h
        refine ⟨max n m, s', ?_, h3⟩
        unfold aops aop step1
        simp only [hw]
        rw [osem_mono (T.mono (by omega)) h1]
        exact aops_mono (T.mono (by omega)) h2
@[simp] theorem WO_mk {o : AOpc} {as : List AOpd} {ds : List Nat} : WO T (⟨d, o, as, none, ds⟩ :: os) e H k R ↔ WX T o (as.map e.ev) d os e H k R := WO_cons
/-- Whether a guard's value lets through. -/
def let_ (v : AV) (b : Bool) : Option Bool := match v with | .bool x => some (x == b) | .undef => none | _ => some false
@[simp] theorem let_tup {l : List AV} {b : Bool} : let_ (.tup l) b = some false := rfl
@[simp] theorem let_bool {x b : Bool} : let_ (.bool x) b = some (x == b) := rfl
@[simp] theorem WO_mkg {o : AOpc} {as : List AOpd} {ds : List Nat} {t : Nat} {b : Bool} : WO T (⟨d, o, as, some (t, b), ds⟩ :: os) e H k R ↔ WA T (let_ (e t) b) o (as.map e.ev) d os e H k R := WO_cons
/-- A value that an operation gives, or none. -/
def WS (T : Mach) (r : Option AV) (d : Option Nat) (os : List AOper) (e : Env) (H : AHeap) (k : List Fm) (R : AExit → AState → Prop) : Prop :=
  match r with | some v => WO T os (e.put d v) H k R | none => False
@[simp] theorem WS_some {v : AV} : WS T (some v) d os e H k R = WO T os (e.put d v) H k R := rfl
@[simp] theorem WS_none : WS T none d os e H k R = False := rfl
@[simp] theorem WS_ite {p : Prop} {_ : Decidable p} {r : Option AV} : WS T (if p then r else none) d os e H k R ↔ p ∧ WS T r d os e H k R := by
  by_cases h : p <;> simp [h]
@[simp] theorem WS_ite' {p : Prop} {_ : Decidable p} {r : Option AV} : WS T (if p then none else r) d os e H k R ↔ ¬p ∧ WS T r d os e H k R := by
  by_cases h : p <;> simp [h]
def WW (T : Mach) (r : Option (AV × AHeap)) (d : Option Nat) (os : List AOper) (e : Env) (k : List Fm) (R : AExit → AState → Prop) : Prop :=
  match r with | some (v, H') => WO T os (e.put d v) H' k R | none => False
@[simp] theorem WW_some {v : AV} {H' : AHeap} : WW T (some (v, H')) d os e k R = WO T os (e.put d v) H' k R := rfl
@[simp] theorem WW_none : WW T none d os e k R = False := rfl
@[simp] theorem WW_ite {p : Prop} {_ : Decidable p} {r : Option (AV × AHeap)} : WW T (if p then r else none) d os e k R ↔ p ∧ WW T r d os e k R := by
  by_cases h : p <;> simp [h]
@[simp] theorem WW_ite' {p : Prop} {_ : Decidable p} {r : Option (AV × AHeap)} : WW T (if p then none else r) d os e k R ↔ ¬p ∧ WW T r d os e k R := by
  by_cases h : p <;> simp [h]
/-- A call. -/
def WC (T : Mach) (f : Nat) (args : List AV) (d : Option Nat) (os : List AOper) (e : Env) (H : AHeap) (k : List Fm) (R : AExit → AState → Prop) : Prop :=
  ∃ n v H', T.call n f args H = some (v, H') ∧ WO T os (e.put d v) H' k R
theorem WC.of {T : Tab} {f : Nat} {args : List AV} {Q : AV → AHeap → Prop} (h : Calls T f args H Q) (hk : ∀ v H', Q v H' → WO T os (e.put d v) H' k R) : WC T f args d os e H k R := by
  obtain ⟨n, v, H', h1, h2⟩ := h
  exact ⟨n, v, H', h1, hk _ _ h2⟩
theorem Calls.imp {T : Tab} {f : Nat} {args : List AV} {Q Q' : AV → AHeap → Prop} (h : Calls T f args H Q) (hk : ∀ v H', Q v H' → Q' v H') : Calls T f args H Q' := by
  obtain ⟨n, v, H', h1, h2⟩ := h
  exact ⟨n, v, H', h1, hk _ _ h2⟩
@[simp] theorem WX_p {o : POp} {vs : List AV} : WX T (.p o) vs d os e H k R ↔ WS T (psem o vs) d os e H k R := by
  unfold WX WS
  constructor
  · rintro ⟨n, v, H', h1, h2⟩
    simp only [osem] at h1
    cases h3 : psem o vs with
    | none => simp [h3] at h1
    | some u => simp [h3] at h1; obtain ⟨rfl, rfl⟩ := h1; exact h2
  · intro h
    cases h3 : psem o vs with
    | none => simp [h3] at h
    | some u => simp only [h3] at h; exact ⟨0, u, H, by simp [osem, h3], h⟩
@[simp] theorem WX_r {o : ROp} {vs : List AV} : WX T (.r o) vs d os e H k R ↔ WS T (rsem o vs H) d os e H k R := by
  unfold WX WS
  constructor
  · rintro ⟨n, v, H', h1, h2⟩
    simp only [osem] at h1
    cases h3 : rsem o vs H with
    | none => simp [h3] at h1
    | some u => simp [h3] at h1; obtain ⟨rfl, rfl⟩ := h1; exact h2
  · intro h
    cases h3 : rsem o vs H with
    | none => simp [h3] at h
    | some u => simp only [h3] at h; exact ⟨0, u, H, by simp [osem, h3], h⟩
/-- What a writer that is no call does. -/
def wsem0 (o : WOp) (vs : List AV) (H : AHeap) : Option (AV × AHeap) := wsem (fun _ _ _ => none) o vs H
theorem WX_w {o : WOp} {vs : List AV} (ho : ∀ C, wsem C o vs H = wsem0 o vs H) : WX T (.w o) vs d os e H k R ↔ WW T (wsem0 o vs H) d os e k R := by
  unfold WX WW
  constructor
  · rintro ⟨n, v, H', h1, h2⟩
    simp only [osem, ho] at h1
    rw [h1]
    exact h2
  · intro h
    cases h3 : wsem0 o vs H with
    | none => simp [h3] at h
    | some u => simp only [h3] at h; exact ⟨0, u.1, u.2, by simp only [osem, ho]; exact h3, h⟩
@[simp] theorem WX_box {vs : List AV} : WX T (.w .box) vs d os e H k R ↔ WW T (wsem0 .box vs H) d os e k R := WX_w fun _ => wsem_other (by simp)
@[simp] theorem WX_st {n : Nat} {vs : List AV} : WX T (.w (.st n)) vs d os e H k R ↔ WW T (wsem0 (.st n) vs H) d os e k R := WX_w fun _ => wsem_other (by simp)
@[simp] theorem WX_bsl {a b : Nat} {z : List AV} {l : List (Nat × Nat)} {vs : List AV} : WX T (.w (.bsl a b z l)) vs d os e H k R ↔ WW T (wsem0 (.bsl a b z l) vs H) d os e k R := WX_w fun _ => wsem_other (by simp)
@[simp] theorem WX_mks {n : Nat} {z : List AV} {vs : List AV} : WX T (.w (.mks n z)) vs d os e H k R ↔ WW T (wsem0 (.mks n z) vs H) d os e k R := WX_w fun _ => wsem_other (by simp)
@[simp] theorem WX_app {n m : Nat} {vs : List AV} : WX T (.w (.app n m)) vs d os e H k R ↔ WW T (wsem0 (.app n m) vs H) d os e k R := WX_w fun _ => wsem_other (by simp)
@[simp] theorem WX_grow {n m : Nat} {z vs : List AV} : WX T (.w (.grow n m z)) vs d os e H k R ↔ WW T (wsem0 (.grow n m z) vs H) d os e k R := WX_w fun _ => wsem_other (by simp)
@[simp] theorem WX_cpy {n : Nat} {vs : List AV} : WX T (.w (.cpy n)) vs d os e H k R ↔ WW T (wsem0 (.cpy n) vs H) d os e k R := WX_w fun _ => wsem_other (by simp)
@[simp] theorem WX_s2b {vs : List AV} : WX T (.w .s2b) vs d os e H k R ↔ WW T (wsem0 .s2b vs H) d os e k R := WX_w fun _ => wsem_other (by simp)
@[simp] theorem WX_mkM {vs : List AV} : WX T (.w .mkM) vs d os e H k R ↔ WW T (wsem0 .mkM vs H) d os e k R := WX_w fun _ => wsem_other (by simp)
@[simp] theorem WX_mset {c : CK} {vs : List AV} : WX T (.w (.mset c)) vs d os e H k R ↔ WW T (wsem0 (.mset c) vs H) d os e k R := WX_w fun _ => wsem_other (by simp)
@[simp] theorem WX_mdel {c : CK} {vs : List AV} : WX T (.w (.mdel c)) vs d os e H k R ↔ WW T (wsem0 (.mdel c) vs H) d os e k R := WX_w fun _ => wsem_other (by simp)
@[simp] theorem WX_ment {c : CK} {z : AV} {vs : List AV} : WX T (.w (.ment c z)) vs d os e H k R ↔ WW T (wsem0 (.ment c z) vs H) d os e k R := WX_w fun _ => wsem_other (by simp)
@[simp] theorem WX_mst {vs : List AV} : WX T (.w .mst) vs d os e H k R ↔ WW T (wsem0 .mst vs H) d os e k R := WX_w fun _ => wsem_other (by simp)
@[simp] theorem WX_rngS {vs : List AV} : WX T (.w .rngS) vs d os e H k R ↔ WW T (wsem0 .rngS vs H) d os e k R := WX_w fun _ => wsem_other (by simp)
@[simp] theorem WX_boxT {t : Nat} {vs : List AV} : WX T (.w (.boxT t)) vs d os e H k R ↔ WW T (wsem0 (.boxT t) vs H) d os e k R := WX_w fun _ => wsem_other (by simp)
@[simp] theorem WX_appT {t n m : Nat} {vs : List AV} : WX T (.w (.appT t n m)) vs d os e H k R ↔ WW T (wsem0 (.appT t n m) vs H) d os e k R := WX_w fun _ => wsem_other (by simp)
@[simp] theorem WX_ustr {t : Nat} {vs : List AV} : WX T (.w (.ustr t)) vs d os e H k R ↔ WW T (wsem0 (.ustr t) vs H) d os e k R := WX_w fun _ => wsem_other (by simp)
@[simp] theorem WX_nxtS {vs : List AV} : WX T (.w .nxtS) vs d os e H k R ↔ WW T (wsem0 .nxtS vs H) d os e k R := WX_w fun _ => wsem_other (by simp)
@[simp] theorem WX_call {f : Nat} {a c args : List AV} : WX T (.w .call) (.fn f a c :: args) d os e H k R ↔ WC T f (a ++ args ++ c) d os e H k R := by
  unfold WX WC
  rfl
/-! ### Loops and functions -/
/-- What a round of a loop has to leave. -/
def LR {ι : Type} (T : Mach) (I : ι → Env → AHeap → Prop) (μ : ι → Nat) (i : ι) (k : List Fm) (R : AExit → AState → Prop) : AExit → AState → Prop := fun x s =>
  match x with
  | .normal => ∃ j, μ j < μ i ∧ I j s.1 s.2
  | x => Wk T k x s R
theorem W_loop {ι : Type} {b : ACode} {H : AHeap} (I : ι → Env → AHeap → Prop) (μ : ι → Nat) (i : ι) (h : I i e H) (round : ∀ i e H, I i e H → W T b [] (e, H) (LR T I μ i k R)) : W T (.loop b) k (e, H) R := by
  generalize hn : μ i = n
  induction n using Nat.strongRecOn generalizing i e H with
  | _ n ih =>
    obtain ⟨n1, x, s', h1, h2⟩ := round i e H h
    cases x with
    | normal =>
      obtain ⟨j, h3, h4⟩ := h2
      obtain ⟨n2, y, t, h5, h6⟩ := ih (μ j) (by omega) j (e := s'.1) (H := s'.2) h4 rfl
      refine ⟨max n1 n2 + 1, y, t, ?_, h6⟩
      simp only [acode]
      rw [acode_mono (D := T.call (max n1 n2 + 1)) (T.mono (by omega)) (m := max n1 n2) (by omega) h1]
      exact acode_mono (T.mono (by omega)) (by omega) h5
    | exit id =>
      refine ⟨n1 + 1, _, _, ?_, h2⟩
      simp only [acode]
      rw [acode_mono (D := T.call (n1 + 1)) (T.mono (by omega)) (m := n1) (by omega) h1]
    | ret =>
      refine ⟨n1 + 1, _, _, ?_, h2⟩
      simp only [acode]
      rw [acode_mono (D := T.call (n1 + 1)) (T.mono (by omega)) (m := n1) (by omega) h1]
section
variable {ι : Type} {I : ι → Env → AHeap → Prop} {μ : ι → Nat} {i : ι} {s : AState}
@[simp] theorem LR_normal : LR T I μ i k R .normal s ↔ ∃ j, μ j < μ i ∧ I j s.1 s.2 := Iff.rfl
@[simp] theorem LR_exit {id : Nat} : LR T I μ i k R (.exit id) s ↔ Wk T k (.exit id) s R := Iff.rfl
@[simp] theorem LR_ret : LR T I μ i k R .ret s ↔ Wk T k .ret s R := Iff.rfl
end
/-- What a function that defers nothing has to leave. -/
def RR (res : List ARes) (Q : AV → AHeap → Prop) : AExit → AState → Prop := fun x s =>
  match x with
  | .exit _ => False
  | _ => match ares s.1 s.2 res with | some vs => Q (one vs) s.2 | none => False
/-- A function's values. -/
def RV (r : Option (List AV)) (Q : AV → AHeap → Prop) (H : AHeap) : Prop := match r with | some vs => Q (one vs) H | none => False
@[simp] theorem RV_some {vs : List AV} {Q : AV → AHeap → Prop} : RV (some vs) Q H = Q (one vs) H := rfl
@[simp] theorem RR_ret {res : List ARes} {Q : AV → AHeap → Prop} : RR res Q .ret (e, H) = RV (ares e H res) Q H := rfl
@[simp] theorem RR_normal {res : List ARes} {Q : AV → AHeap → Prop} : RR res Q .normal (e, H) = RV (ares e H res) Q H := rfl
@[simp] theorem ares_nil : ares e H [] = some [] := rfl
/-- A value in front of others. -/
def consO (v : AV) (r : Option (List AV)) : Option (List AV) := match r with | some l => some (v :: l) | none => none
@[simp] theorem consO_some {v : AV} {l : List AV} : consO v (some l) = some (v :: l) := rfl
@[simp] theorem ares_tmp {t : Nat} {r : List ARes} : ares e H (.tmp t :: r) = consO (e t) (ares e H r) := rfl
@[simp] theorem one_one {v : AV} : one [v] = v := rfl
@[simp] theorem one_two {u v : AV} {l : List AV} : one (u :: v :: l) = .tup (u :: v :: l) := rfl
def argsEnv : List AV → Nat → Env
  | [], _ => fun _ => .undef
  | v :: l, i => upd (argsEnv l (i + 1)) i v
theorem argsEnv_eq : ∀ (l : List AV) (i j : Nat), argsEnv l i j = if j < i then .undef else l.getD (j - i) .undef
  | [], i, j => by simp [argsEnv]
  | v :: l, i, j => by
    simp only [argsEnv, upd]
    rw [argsEnv_eq l (i + 1) j]
    by_cases h : j = i
    · subst h; simp
    · by_cases h2 : j < i
      · simp [h, h2, Nat.lt_succ_of_lt h2]
      · have h3 : ¬ j < i + 1 := by omega
        obtain ⟨m, hm⟩ : ∃ m, j - i = m + 1 := ⟨j - i - 1, by omega⟩
        have h4 : j - (i + 1) = m := by omega
        simp [h, h2, h3, hm, h4]
theorem argsEnv_zero (l : List AV) : (fun i => l.getD i .undef) = argsEnv l 0 := by
  funext j; rw [argsEnv_eq]; simp
@[simp] theorem argsEnv_nil {i : Nat} : argsEnv [] i = fun _ => .undef := rfl
@[simp] theorem argsEnv_cons {v : AV} {l : List AV} {i : Nat} : argsEnv (v :: l) i = upd (argsEnv l (i + 1)) i v := rfl
end
end
section
variable {T : Tab} {k : List Fm} {e : Env} {H : AHeap} {R : AExit → AState → Prop} {os : List AOper} {d : Option Nat}
/-- A deferred call. -/
def DCalls (T : Tab) (f : Nat) (args : List AV) (H : AHeap) (Q : AHeap → Prop) : Prop := ∃ n H', dcall T.fn (T.call n) n f args H = some H' ∧ Q H'
/-- Deferred calls, the last one first. -/
def DR (T : Tab) : List AV → AHeap → (AHeap → Prop) → Prop
  | [], H, K => K H
  | .fn f as caps :: ds, H, K => DCalls T f (as ++ caps) H fun H' => DR T ds H' K
  | .tup [.yld b] :: ds, H, K => H.blk b = some (.dq true) ∧ DR T ds (H.setObj b (.dq false)) K
  | _ :: _, _, _ => False
theorem DR.cons {T : Tab} {v : AV} {ds : List AV} {H : AHeap} {K : AHeap → Prop} (h : DR T (v :: ds) H K) : (∃ b, v = .tup [.yld b] ∧ H.blk b = some (.dq true) ∧ DR T ds (H.setObj b (.dq false)) K) ∨ (∃ f as caps, v = .fn f as caps ∧ DCalls T f (as ++ caps) H fun H' => DR T ds H' K) := by
  cases v with
  | fn f as caps => exact .inr ⟨f, as, caps, rfl, h⟩
  | tup vs =>
    cases vs with
    | nil => simp [DR] at h
    | cons a vs =>
      cases vs with
      | cons b vs => cases a <;> simp [DR] at h
      | nil =>
        cases a <;> try (simp [DR] at h; done)
        rename_i b
        simp only [DR] at h
        exact .inl ⟨b, rfl, h.1, h.2⟩
  | _ => simp [DR] at h
def DV (T : Tab) (v : AV) (H : AHeap) (K : AHeap → Prop) : Prop :=
  match v with
  | .undef => K H
  | .tup ds => DR T ds H K
  | _ => False
@[simp] theorem DV_undef {K : AHeap → Prop} : DV T .undef H K = K H := rfl
@[simp] theorem DV_tup {ds : List AV} {K : AHeap → Prop} : DV T (.tup ds) H K = DR T ds H K := rfl
@[simp] theorem DR_nil {K : AHeap → Prop} : DR T [] H K = K H := rfl
@[simp] theorem DR_cons {f : Nat} {as caps ds : List AV} {K : AHeap → Prop} : DR T (.fn f as caps :: ds) H K = DCalls T f (as ++ caps) H fun H' => DR T ds H' K := rfl
@[simp] theorem DR_mark {b : Nat} {ds : List AV} {K : AHeap → Prop} : DR T (.tup [.yld b] :: ds) H K = (H.blk b = some (.dq true) ∧ DR T ds (H.setObj b (.dq false)) K) := rfl
theorem DCalls.imp {f : Nat} {args : List AV} {Q Q' : AHeap → Prop} (h : DCalls T f args H Q) (hk : ∀ H', Q H' → Q' H') : DCalls T f args H Q' := by
  obtain ⟨n, H', h1, h2⟩ := h
  exact ⟨n, H', h1, hk _ h2⟩
theorem DR.run : ∀ {ds : List AV} {H : AHeap} {K : AHeap → Prop}, DR T ds H K → ∃ n H', rundL (dcall T.fn (T.call n) n) ds H = some H' ∧ K H'
  | [], H, K, h => ⟨0, H, rfl, h⟩
  | v :: ds, H, K, h => by
    rcases h.cons with ⟨b, rfl, hb, h2⟩ | ⟨f, as, caps, rfl, n, H1, h1, h2⟩
    · obtain ⟨m, H2, h3, h4⟩ := DR.run h2
      exact ⟨m, H2, by simp only [rundL]; rw [hb]; exact h3, h4⟩
    obtain ⟨m, H2, h3, h4⟩ := DR.run h2
    refine ⟨max n m, H2, ?_, h4⟩
    simp only [rundL]
    rw [dcall_mono (D := T.call (max n m)) (acall_mono (by omega)) (m := max n m) (by omega) h1]
    exact rundL_mono (fun f args H r hr => dcall_mono (acall_mono (by omega)) (by omega) hr) h3
theorem DV.run {v : AV} {K : AHeap → Prop} (h : DV T v H K) : ∃ n H', rund (dcall T.fn (T.call n) n) v H = some H' ∧ K H' := by
  cases v <;> simp only [DV] at h
  · exact ⟨0, H, rfl, h⟩
  · obtain ⟨n, H', h1, h2⟩ := DR.run h; exact ⟨n, H', h1, h2⟩
/-- What a function has to leave. -/
def RRD (T : Tab) (res : List ARes) (Q : AV → AHeap → Prop) : AExit → AState → Prop := fun x s =>
  match x with
  | .exit _ => False
  | _ => DV T (s.1 dfrT) s.2 fun H' => RV (ares s.1 H' res) Q H'
@[simp] theorem RRD_ret {res : List ARes} {Q : AV → AHeap → Prop} : RRD T res Q .ret (e, H) = DV T (e 1048576) H fun H' => RV (ares e H' res) Q H' := rfl
@[simp] theorem RRD_normal {res : List ARes} {Q : AV → AHeap → Prop} : RRD T res Q .normal (e, H) = DV T (e 1048576) H fun H' => RV (ares e H' res) Q H' := rfl
theorem env0_args {args : List AV} (hl : args.length ≤ 1048576) : env0 args = argsEnv args 0 := by
  rw [← argsEnv_zero]
  funext i
  unfold env0
  split
  · rename_i h
    rw [List.getD_eq_getElem?_getD, List.getElem?_eq_none (by rw [h]; exact hl)]; rfl
  · rfl
/-- A function that may defer calls. -/
theorem Calls.fnDP {f : Nat} {args : List AV} {ir : AFunc} {Q : AV → AHeap → Prop} (hp : told (T.prim f) args H = none) (hf : T.fn f = some ir) (h : W T ir.body [] (env0 args, H) (RRD T ir.results Q)) : Calls T f args H Q := by
  obtain ⟨n, x, s', h1, h2⟩ := h
  have key : (x = .normal ∨ x = .ret) ∧ ∃ m vs H', rund (dcall T.fn (T.call m) m) (s'.1 dfrT) s'.2 = some H' ∧ ares s'.1 H' ir.results = some vs ∧ Q (one vs) H' := by
    have h2' : RRD T ir.results Q x s' := h2
    have fin : DV T (s'.1 dfrT) s'.2 (fun H' => RV (ares s'.1 H' ir.results) Q H') → ∃ m vs H', rund (dcall T.fn (T.call m) m) (s'.1 dfrT) s'.2 = some H' ∧ ares s'.1 H' ir.results = some vs ∧ Q (one vs) H' := by
      intro k
      obtain ⟨m, H', k1, k2⟩ := k.run
      cases hv : ares s'.1 H' ir.results with
      | none => simp [hv, RV] at k2
      | some vs => rw [hv] at k2; exact ⟨m, vs, H', k1, hv, k2⟩
    cases x with
    | normal => exact ⟨.inl rfl, fin h2'⟩
    | ret => exact ⟨.inr rfl, fin h2'⟩
    | exit id => exact h2'.elim
  obtain ⟨hx, m, vs, H', k1, k2, k3⟩ := key
  refine ⟨max n m + 1, one vs, H', ?_, k3⟩
  show acall T.fn T.prim (max n m + 1) f args H = _
  rw [acall_eq hp hf]
  have h3 := acode_mono (D := T.call (max n m)) (acall_mono (by omega)) (m := max n m + 1) (by omega) h1
  have k4 : behind (dcall T.fn (acall T.fn T.prim (max n m)) (max n m)) ir.results s' = some (one vs, H') := by
    unfold behind
    rw [rund_mono (D' := dcall T.fn (T.call (max n m)) (max n m)) (fun f args H r hr => dcall_mono (acall_mono (by omega)) (by omega) hr) k1]
    simp only [k2]
  rw [show acode T.fn (acall T.fn T.prim (max n m)) (max n m + 1) ir.body (env0 args, H) = some (x, s') from h3]
  rcases hx with rfl | rfl <;> exact k4
theorem Calls.fnD {f : Nat} {args : List AV} {ir : AFunc} {Q : AV → AHeap → Prop} (hp : T.prim f = none) (hf : T.fn f = some ir) (h : W T ir.body [] (argsEnv args 0, H) (RRD T ir.results Q)) (hl : args.length ≤ 1048576 := by simp) : Calls T f args H Q :=
  Calls.fnDP (by rw [hp]; rfl) hf (by rw [env0_args hl]; exact h)
/-- No call is deferred in it. -/
def ACode.nodfr : ACode → Bool
  | .region ops _ _ => ops.all fun o => match o.dst with | some d => Nat.blt d 1048576 | none => true
  | .seq a b => a.nodfr && b.nodfr
  | .cond _ a b => a.nodfr && b.nodfr
  | .block _ b => b.nodfr
  | .loop b => b.nodfr
  | .rngf .. => false
  | _ => true
theorem aops_nodfr {C : CallF} : ∀ {l : List AOper} {s s' : AState}, (l.all fun o => match o.dst with | some d => Nat.blt d 1048576 | none => true) = true → aops C l s = some s' → s'.1 dfrT = s.1 dfrT
  | [], s, s', _, h => by simp [aops] at h; rw [h]
  | o :: l, s, s', hn, h => by
    simp only [List.all_cons, Bool.and_eq_true] at hn
    unfold aops at h
    cases h1 : aop C o s with
    | none => simp [h1] at h
    | some s1 =>
      simp only [h1] at h
      rw [aops_nodfr hn.2 h]
      unfold aop at h1
      cases h2 : step1 C o s with
      | none => simp [h2] at h1
      | some p =>
        simp [h2] at h1
        rw [← h1]
        have h3 := hn.1
        cases hd : o.dst with
        | none => rfl
        | some d =>
          rw [hd] at h3
          have : d < 1048576 := by simpa using h3
          show upd s.1 d p.1 dfrT = _
          exact upd_ne _ _ _ (by unfold dfrT; omega)
theorem atrace_last {C : CallF} : ∀ {l : List AOper} {s : AState} {tr : List AState}, atrace C l s = some tr → aops C l s = tr.getLast?
  | [], s, tr, h => by simp [atrace] at h; subst h; rfl
  | o :: l, s, tr, h => by
    unfold atrace at h
    unfold aops
    cases h1 : aop C o s with
    | none => simp [h1] at h
    | some s1 =>
      simp only [h1] at h ⊢
      cases h2 : atrace C l s1 with
      | none => simp [h2] at h
      | some t2 =>
        simp [h2] at h
        subst h
        rw [atrace_last h2]
        cases t2 with
        | nil => cases l with
          | nil => simp [atrace] at h2
          | cons o2 l2 =>
            unfold atrace at h2
            cases h3 : aop C o2 s1 with
            | none => simp [h3] at h2
            | some s2 => cases h4 : atrace C l2 s2 <;> simp [h3, h4] at h2
        | cons a b => rw [List.getLast?_cons_cons]
theorem acode_nodfr {F : Nat → Option AFunc} {C : CallF} : ∀ {n : Nat} {c : ACode} {s s' : AState} {x : AExit}, c.nodfr = true → acode F C n c s = some (x, s') → s'.1 dfrT = s.1 dfrT := by
  intro n
  induction n with
  | zero => intro c s s' x _ h; simp [acode] at h
  | succ n ih =>
    intro c s s' x hn h
    cases c with
    | rngf g ps asg body => simp [ACode.nodfr] at hn
    | skip => simp [acode] at h; rw [h.2]
    | exit id => simp [acode] at h; rw [h.2]
    | ret => simp [acode] at h; rw [h.2]
    | region ops d fl =>
      simp only [acode] at h
      cases h1 : aregion C ops fl s with
      | none => simp [h1] at h
      | some s1 =>
        simp [h1] at h
        rw [← h.2]
        have hn' : (ops.all fun o => match o.dst with | some d => Nat.blt d 1048576 | none => true) = true := hn
        unfold aregion at h1
        split at h1
        · exact aops_nodfr hn' h1
        · cases h2 : atrace C ops s with
          | none => simp [h2] at h1
          | some tr =>
            simp only [h2] at h1
            split at h1
            · exact aops_nodfr hn' ((atrace_last h2).trans h1)
            · cases h1
    | seq a b =>
      simp only [ACode.nodfr, Bool.and_eq_true] at hn
      simp only [acode] at h
      cases h1 : acode F C n a s with
      | none => simp [h1] at h
      | some p =>
        obtain ⟨y, s1⟩ := p
        have e1 := ih hn.1 h1
        rw [h1] at h
        cases y with
        | normal => simp only at h; rw [ih hn.2 h, e1]
        | exit i => simp at h; rw [← h.2, e1]
        | ret => simp at h; rw [← h.2, e1]
    | cond c a b =>
      simp only [ACode.nodfr, Bool.and_eq_true] at hn
      simp only [acode] at h
      cases h1 : s.1.ev c <;> rw [h1] at h <;> try (cases h; done)
      rename_i y
      cases y with
      | true => exact ih hn.1 h
      | false => exact ih hn.2 h
    | block id b =>
      simp only [ACode.nodfr] at hn
      simp only [acode] at h
      cases h1 : acode F C n b s with
      | none => simp [h1] at h
      | some p =>
        obtain ⟨y, s1⟩ := p
        have e1 := ih hn h1
        rw [h1] at h
        cases y with
        | normal => simp at h; rw [← h.2, e1]
        | ret => simp at h; rw [← h.2, e1]
        | exit i =>
          simp only at h
          split at h
          · simp at h; rw [← h.2, e1]
          · simp at h; rw [← h.2, e1]
    | loop b =>
      simp only [acode] at h
      cases h1 : acode F C n b s with
      | none => simp [h1] at h
      | some p =>
        obtain ⟨y, s1⟩ := p
        have e1 := ih (show b.nodfr = true from hn) h1
        rw [h1] at h
        cases y with
        | normal => simp only at h; rw [ih hn h, e1]
        | exit i => simp at h; rw [← h.2, e1]
        | ret => simp at h; rw [← h.2, e1]
theorem W_nodfr {c : ACode} {s : AState} {R R' : AExit → AState → Prop} (hn : c.nodfr = true) (h : W T c [] s R) (hR : ∀ x s', s'.1 dfrT = s.1 dfrT → R x s' → R' x s') : W T c [] s R' := by
  obtain ⟨n, x, s', h1, h2⟩ := h
  exact ⟨n, x, s', h1, hR _ _ (acode_nodfr hn h1) h2⟩
theorem Calls.fnP {f : Nat} {args : List AV} {ir : AFunc} {Q : AV → AHeap → Prop} (hp : told (T.prim f) args H = none) (hf : T.fn f = some ir) (h : W T ir.body [] (argsEnv args 0, H) (RR ir.results Q)) (hn : ir.body.nodfr = true := by decide +kernel) (hl : args.length ≤ 1048576 := by simp) : Calls T f args H Q := by
  refine Calls.fnDP hp hf ?_
  rw [env0_args hl]
  have e0 : argsEnv args 0 dfrT = .undef := by rw [← env0_args hl]; unfold env0; rw [if_pos rfl]
  refine W_nodfr hn h fun x s' hd hr => ?_
  have hd' : s'.1 dfrT = .undef := hd.trans e0
  have fin : (match ares s'.1 s'.2 ir.results with | some vs => Q (one vs) s'.2 | none => False) → DV T (s'.1 dfrT) s'.2 fun H' => RV (ares s'.1 H' ir.results) Q H' := by
    intro k
    rw [hd']
    exact k
  cases x with
  | normal => exact fin hr
  | ret => exact fin hr
  | exit i => exact hr.elim
theorem Calls.fn {f : Nat} {args : List AV} {ir : AFunc} {Q : AV → AHeap → Prop} (hp : T.prim f = none) (hf : T.fn f = some ir) (h : W T ir.body [] (argsEnv args 0, H) (RR ir.results Q)) (hn : ir.body.nodfr = true := by decide +kernel) (hl : args.length ≤ 1048576 := by simp) : Calls T f args H Q :=
  Calls.fnP (by rw [hp]; rfl) hf h hn hl
/-- A function that runs as a deferred call. -/
theorem DCalls.fn {f : Nat} {args : List AV} {ir : AFunc} {Q : AHeap → Prop} (hf : T.fn f = some ir) (h : W T ir.body [] (argsEnv args 0, H) (RR ir.results fun _ H' => Q H')) (hn : ir.body.nodfr = true := by decide +kernel) (hl : args.length ≤ 1048576 := by simp) : DCalls T f args H Q := by
  obtain ⟨n, x, s', h1, h2⟩ := h
  have e0 : argsEnv args 0 dfrT = .undef := by rw [← env0_args hl]; unfold env0; rw [if_pos rfl]
  have hd : s'.1 dfrT = .undef := (acode_nodfr hn h1).trans e0
  rw [← env0_args hl] at h1
  have h1' : acode T.fn (T.call n) n ir.body (fun i => if i = dfrT then .undef else args.getD i .undef, H) = some (x, s') := h1
  have h2' : RR ir.results (fun _ H' => Q H') x s' := h2
  refine ⟨n, s'.2, ?_, ?_⟩
  · unfold dcall
    simp only [hf, h1']
    cases x with
    | exit i => exact h2'.elim
    | normal =>
      simp only [hd]
      cases hv : ares s'.1 s'.2 ir.results with
      | none => simp [RR, hv] at h2'
      | some vs => rfl
    | ret =>
      simp only [hd]
      cases hv : ares s'.1 s'.2 ir.results with
      | none => simp [RR, hv] at h2'
      | some vs => rfl
  · cases x with
    | exit i => exact h2'.elim
    | normal => simp only [RR] at h2'; split at h2'; exact h2'; exact h2'.elim
    | ret => simp only [RR] at h2'; split at h2'; exact h2'; exact h2'.elim
theorem Calls.prim {f : Nat} {args : List AV} {p : List AV → AHeap → Option (AV × AHeap)} {Q : AV → AHeap → Prop} (hp : T.prim f = some p) {v : AV} {H' : AHeap} (h : p args H = some (v, H')) (hq : Q v H') : Calls T f args H Q :=
  ⟨1, v, H', by show acall T.fn T.prim 1 f args H = _; unfold acall; simp only [told, hp, h], hq⟩
end
end Go.Am
