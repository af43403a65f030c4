/- Ranges over functions: how they are walked. -/
import Derived.Test.YtdgkaachkodimaaDoorAmWp
set_option linter.unusedVariables false
set_option linter.unusedSimpArgs false
namespace Go.Am
/-- Calls, and a yield: what an iterator is walked on. -/
def Mach.yl (T : Mach) (y : Nat) (ps : List Nat) (asg body : ACode) (e : Env) : Mach where
  fn := T.fn
  call n := yldC (T.call n) y (roundF (acode T.fn (T.call n) n asg) (acode T.fn (T.call n) n body) ps e)
  mono h := yldC_mono (T.mono h) (roundF_mono (fun _ _ k => acode_mono (T.mono h) h k) (fun _ _ k => acode_mono (T.mono h) h k))
section
variable {T : Mach} {k : List Fm} {e : Env} {H : AHeap} {R : AExit → AState → Prop} {os : List AOper} {d : Option Nat}
/-- What stands behind a range over a function. -/
def RI (T : Mach) (res : List ARes) (e : Env) (b : Nat) (k : List Fm) (R : AExit → AState → Prop) : AExit → AState → Prop := fun x s =>
  match x with
  | .exit _ => False
  | _ => s.1 dfrT = .undef ∧ (ares s.1 s.2 res).isSome = true ∧ Wk T k .normal (upd e dfrT (pushM (e dfrT) b), s.2) R
@[simp] theorem RI_ret {res : List ARes} {b : Nat} {e' : Env} {H' : AHeap} : RI T res e b k R .ret (e', H') = (e' 1048576 = .undef ∧ (ares e' H' res).isSome = true ∧ Wk T k .normal (upd e 1048576 (pushM (e 1048576) b), H') R) := rfl
@[simp] theorem RI_normal {res : List ARes} {b : Nat} {e' : Env} {H' : AHeap} : RI T res e b k R .normal (e', H') = (e' 1048576 = .undef ∧ (ares e' H' res).isSome = true ∧ Wk T k .normal (upd e 1048576 (pushM (e 1048576) b), H') R) := rfl
theorem iterEnd_of {res : List ARes} {b : Nat} {x : AExit} {s : AState} (hx : x = .normal ∨ x = .ret) (hd : s.1 dfrT = .undef) {vs : List AV} (hv : ares s.1 s.2 res = some vs) : iterEnd res e b (some (x, s)) = some (.normal, (upd e dfrT (pushM (e dfrT) b), s.2)) := by
  rcases hx with rfl | rfl
  · simp only [iterEnd, hd, hv]
  · simp only [iterEnd, hd, hv]
theorem W_rngf {g : AOpd} {ps : List Nat} {asg body : ACode} {f : Nat} {first caps : List AV} (hg : e.ev g = .fn f first caps) {fn : AFunc} (hf : T.fn f = some fn)
    (h : W (T.yl (H.next + 1) ps asg body e) fn.body [] (env0 (first ++ [AV.yld (H.next + 1)] ++ caps), H.newLoop) (RI T fn.results e H.next k R)) : W T (.rngf g ps asg body) k (e, H) R := by
  obtain ⟨n, x, s', h1, h2⟩ := h
  have h2 : RI T fn.results e H.next k R x s' := h2
  have key : (x = .normal ∨ x = .ret) ∧ s'.1 dfrT = .undef ∧ (ares s'.1 s'.2 fn.results).isSome = true ∧ Wk T k .normal (upd e dfrT (pushM (e dfrT) H.next), s'.2) R := by
    cases x with
    | normal => exact ⟨.inl rfl, h2⟩
    | ret => exact ⟨.inr rfl, h2⟩
    | exit i => exact h2.elim
  obtain ⟨hx, hd, hv, hk⟩ := key
  obtain ⟨vs, hv⟩ := Option.isSome_iff_exists.1 hv
  have mono : CLe ((T.yl (H.next + 1) ps asg body e).call n) (yldC (T.call (n + 1)) (H.next + 1) (roundF (acode T.fn (T.call (n + 1)) n asg) (acode T.fn (T.call (n + 1)) n body) ps e)) :=
    yldC_mono (T.mono (Nat.le_succ n)) (roundF_mono (fun _ _ k => acode_mono (T.mono (Nat.le_succ n)) (Nat.le_refl _) k) (fun _ _ k => acode_mono (T.mono (Nat.le_succ n)) (Nat.le_refl _) k))
  have h3 := acode_mono mono (Nat.le_refl _) h1
  refine ⟨n + 1, .normal, (upd e dfrT (pushM (e dfrT) H.next), s'.2), ?_, hk⟩
  have hg' : (e, H).1.ev g = .fn f first caps := hg
  unfold acode
  simp only [hg', hf]
  refine Eq.trans (congrArg _ ?_) (iterEnd_of hx hd hv)
  exact h3
/-- A yield. -/
theorem WX_yl {y : Nat} {ps : List Nat} {asg body : ACode} {e0 : Env} {args : List AV} (hl : args.length = ps.length)
    (h : W T (.seq asg body) [] (upd (putAll e0 ps args) dfrT .undef, H) (fun x s => x = .normal ∧ WO (T.yl y ps asg body e0) os (e.put d (.bool true)) s.2 k R)) : WX (T.yl y ps asg body e0) (.w .call) (.yld y :: args) d os e H k R := by
  rw [W_seq] at h
  obtain ⟨n, x, s1, h1, h2⟩ := h
  cases x with
  | exit i => exact absurd h2.1 (by simp)
  | ret => exact absurd h2.1 (by simp)
  | normal =>
    obtain ⟨m, x, s2, h3, h4⟩ := h2
    obtain ⟨rfl, h4⟩ := h4
    refine ⟨max n m, .bool true, s2.2, ?_, h4⟩
    show yldC (T.call (max n m)) y (roundF (acode T.fn (T.call (max n m)) (max n m) asg) (acode T.fn (T.call (max n m)) (max n m) body) ps e0) yldF (.yld y :: args) H = _
    unfold yldC
    rw [if_pos rfl]
    simp only [if_true]
    unfold roundF
    rw [if_pos hl, acode_mono (T.mono (Nat.le_max_left n m)) (Nat.le_max_left n m) h1]
    simp only [acode_mono (T.mono (Nat.le_max_right n m)) (Nat.le_max_right n m) h3]
end
end Go.Am
