/- One operation, whatever it is: what the translation makes of it gives what the model gives. -/
import Derived.Test.YtjmiblcdjkcgoaaAmMap
import Derived.Test.YtjmiblcdjkcgoaaAmGrow
set_option linter.unusedVariables false
set_option linter.unusedSimpArgs false
namespace Go.Am
open Go.RowKit
variable {G : Nat → Nat} {P : Program}
section
variable {B : Nat} {w0 w : World} {E : Nat → Ent} {H : AHeap}
variable {C : CallF} {o : Oper} {opc : AOpc} {args : List AOpd} {env : Env} {a : Act} {v : AV} {H' : AHeap}

theorem call_sound (c : Call) (hop : o.op = .call c) (hc : compileCall P G c = some (opc, args)) (hn : opc ≠ .w .call) (he : EnvR G H.next E env a) (h : HRel G B w0 E H w) (hs : osem C opc (args.map env.ev) H = some (v, H')) :
    Out P G B w0 E H w (execOp a.eval o) v H' := by
  unfold compileCall at hc
  cases hcal : c.callee with
  | value f =>
    simp only [hcal] at hc
    exact absurd (withs_eq hc).2 hn
  | invoke r m => simp [hcal] at hc
  | builtin b =>
    simp only [hcal] at hc
    split at hc
    · -- len
      rename_i t ts x xs e1 e2
      split at hc
      · rename_i hd; exact s_lenStr c hop hcal e1 e2 hd hc he h hs
      · rename_i hd; exact s_len c hop hcal e1 e2 hd hc he h hs
      · rename_i k e hd; exact s_lenA c hop hcal e1 e2 hd hc he h hs
      · rename_i hd; exact s_lenM c hop hcal e1 e2 hd hc he h hs
      · cases hc
    · rename_i t ts x xs e1 e2
      split at hc
      · rename_i hd; exact s_cap c hop hcal e1 e2 hd hc he h hs
      · cases hc
    · rename_i x xs e2; exact s_max c hop hcal e2 hc he h hs
    · rename_i x xs e2; exact s_min c hop hcal e2 hc he h hs
    · -- append
      rename_i t u ts x y xs e1 e2
      split at hc
      · rename_i el hd
        split at hc
        · rename_i sz by_ _ z q1 q2 q3 q4
          split at hc
          · rename_i hz; exact s_app c hop hcal e1 e2 hd q3 q1 q2 q4 hz.1 (.inr ⟨_, rfl⟩) hc he h hs
          · cases hc
        · rename_i sz by_ z q1 q2 q3 q4
          split at hc
          · rename_i hz; exact s_app c hop hcal e1 e2 hd q3 q1 q2 q4 (by omega) (.inl rfl) hc he h hs
          · cases hc
        · rename_i sz by_ _ z q1 q2 q3 q4
          split at hc
          · rename_i hz; exact s_grow c hop hcal e1 e2 hd q3 q1 q2 q4 hz.1 hz.2 hc he h hs
          · cases hc
        · cases hc
      · cases hc
    · -- copy
      rename_i t u ts x y xs e1 e2
      split at hc
      · rename_i el hd
        split at hc
        · rename_i sz _ q1 q2
          split at hc
          · exact s_cpy c hop hcal e1 e2 hd q1 hc he h hs
          · cases hc
        · rename_i sz q1 q2
          split at hc
          · exact s_cpy c hop hcal e1 e2 hd q1 hc he h hs
          · cases hc
        · cases hc
      · cases hc
    · -- delete
      rename_i t ts x y xs e1 e2
      split at hc
      · rename_i k e hd
        split at hc
        · rename_i ck hck; exact s_mdel c hop hcal e1 e2 hd hck hc he h hs
        · cases hc
      · cases hc
    · cases hc

theorem conv_sound (s d : TypeId) (x : Operand) (hop : o.op = .convert s d x) (hc : compileConv P G s d x = some (opc, args)) (he : EnvR G H.next E env a) (h : HRel G B w0 E H w) (hs : osem C opc (args.map env.ev) H = some (v, H')) :
    Out P G B w0 E H w (execOp a.eval o) v H' := by
  unfold compileConv at hc
  split at hc
  · rename_i sk k q1 q2; exact s_convP s d x hop _ (.inl ⟨k, sk, q1, q2, rfl⟩) hc he h hs
  · rename_i sk q1 q2; exact s_convP s d x hop _ (.inr ⟨sk, q1, q2, rfl⟩) hc he h hs
  · rename_i q1 q2; exact s_convS s d x hop q1 q2 hc he h hs
  · rename_i e q1 q2
    split at hc
    · rename_i q3; exact s_s2b s d e x hop q1 q2 q3 hc he h hs
    · cases hc
  · rename_i e q1 q2
    split at hc
    · rename_i q3; exact s_b2s s d e x hop q1 q2 q3 hc he h hs
    · cases hc
  · cases hc

theorem run_places : ∀ (fs : List Field) (pls : List (Nat × Nat)), mapO (place1 P) fs = some pls → (fs.mapM (fun f => do pure (f.offset, ← sizeOf f.type)) : Sem (List (Nat × Nat))).run P w = .ok pls w
  | [], pls, h => by simp [mapO] at h; subst h; simp
  | f :: fs, pls, h => by
    unfold mapO at h
    cases h1 : place1 P f with
    | none => simp [h1] at h
    | some q =>
      cases h2 : mapO (place1 P) fs with
      | none => simp [h1, h2] at h
      | some l =>
        simp [h1, h2] at h
        subst h
        unfold place1 at h1
        cases h3 : sizeT P f.type with
        | none => simp [h3] at h1
        | some n =>
          simp [h3] at h1
          subst h1
          have := run_places fs l h2
          rw [List.mapM_cons, Sem.run_bind, Sem.run_bind, run_sizeOf h3]
          simp only [Result.andThen_ok, Sem.run_pure, Sem.run_bind]
          rw [this]; simp

theorem build_sound (t : TypeId) (parts : Array (Nat × Operand)) (hop : o.op = .build t parts) (hc : compileOp P G o = some (opc, args)) (he : EnvR G H.next E env a) (h : HRel G B w0 E H w) (hs : osem C opc (args.map env.ev) H = some (v, H')) :
    Out P G B w0 E H w (execOp a.eval o) v H' := by
  simp only [compileOp, hop] at hc
  split at hc
  · rename_i zs fields hz hd
    split at hc
    · rename_i pls hpls
      split at hc
      · rename_i pl hp
        refine s_bld t parts hop hz (place := fun i => pls[i]?) hp ?_ hc he h hs
        intro zv hzv ps cells hf
        have hm : (fields.mapM (fun f => do pure (f.offset, ← sizeOf f.type)) : Sem (Array (Nat × Nat))).run P w = .ok pls.toArray w := by
          rw [Array.mapM_eq_mapM_toList, Sem.run_map, run_places _ _ hpls]; rfl
        unfold Instr.build
        simp only [Sem.run_bind, hzv, Result.andThen_ok, run_underlying hd]
        rw [hm]
        simp only [Result.andThen_ok, List.getElem?_toArray, hf]
        simp
      · cases hc
    · cases hc
  · rename_i zs len e hz hd
    split at hc
    · rename_i m hm
      refine s_bld t parts hop hz (place := fun i => some (i * m, m)) ?_ ?_ hc he h hs
      · generalize parts.toList = l
        induction l with
        | nil => rfl
        | cons p l ih => unfold mapO; simp [ih]
      · intro zv hzv ps cells hf
        have hsz : (sizeOf e).run P w = .ok m w := run_sizeOf hm
        unfold Instr.build
        simp only [Sem.run_bind, hzv, Result.andThen_ok, run_underlying hd, hsz]
        rw [hf]; simp
    · cases hc
  · cases hc

theorem op_sound (hc : compileOp P G o = some (opc, args)) (hn : opc ≠ .w .call) (he : EnvR G H.next E env a) (h : HRel G B w0 E H w) (hs : osem C opc (args.map env.ev) H = some (v, H')) :
    Out P G B w0 E H w (execOp a.eval o) v H' := by
  have hc0 := hc
  unfold compileOp at hc
  split at hc
  · rename_i x hop; exact s_move x (.inl hop) hc he h hs
  · rename_i x hop; exact s_move x (.inr hop) hc he h hs
  · rename_i c x y hop; exact s_pick c x y hop hc he h hs
  · rename_i e hop
    split at hc
    · rename_i z hz; exact s_alloc e hop hz hc h hs
    · cases hc
  · rename_i e x hop; exact s_box e x hop hc he h hs
  · rename_i t parts hop; exact build_sound t parts hop hc0 he h hs
  · rename_i t len parts hop
    split at hc
    · rename_i e hd
      split at hc
      · rename_i n z q1 q2
        split at hc
        · rename_i q3; exact s_bsl t len parts hop hd q1 q2 q3.1 q3.2.1 q3.2.2 hc he h hs
        · cases hc
      · cases hc
    · cases hc
  · rename_i t x hop
    split at hc
    · rename_i n g q1 q2
      split at hc
      · rename_i q3; exact s_ld t x hop q1 q2 (by simpa using q3) hc he h hs
      · cases hc
    · cases hc
  · rename_i t x y hop
    split at hc
    · rename_i n q1; exact s_st t x y hop q1 hc he h hs
    · cases hc
  · rename_i x hop; exact s_nilC x hop hc he h hs
  · rename_i op t x y yt hop; exact s_bin op t x y yt hop hc he h hs
  · rename_i op t x hop; exact s_un op t x hop hc he h hs
  · rename_i s d x hop; exact conv_sound s d x hop hc he h hs
  · rename_i f first caps hop; exact s_mkF f first caps hop hc he h hs
  · rename_i t hop; exact s_mkM t hop hc h hs
  · rename_i t l c hop
    split at hc
    · rename_i e hd
      split at hc
      · rename_i by_ z n q1 q2 q3
        split at hc
        · rename_i q4; exact s_mks t l c hop hd q1 q2 q3 q4 hc he h hs
        · cases hc
      · cases hc
    · cases hc
  · rename_i t x lo hi mx hop
    split at hc
    · rename_i hd
      split at hc
      · cases hc
      · rename_i hmx
        have : mx = none := by cases mx <;> simp at hmx ⊢
        subst this
        exact s_slS t x lo hi hop hd hc he h hs
    · rename_i e hd
      split at hc
      · rename_i n q1
        split at hc
        · cases hc
        · rename_i hmx; exact s_sl t x lo hi mx hop hd q1 hmx hc he h hs
      · cases hc
    · cases hc
  · rename_i s x f hop
    split at hc
    · rename_i fields hd
      split at hc
      · rename_i fd hf
        split at hc
        · rename_i n q1
          split at hc
          · cases hc
          · rename_i q2; exact s_fa s x f hop hd hf q1 q2 hc he h hs
        · cases hc
      · cases hc
    · cases hc
  · rename_i t x f hop
    split at hc
    · rename_i fields hd
      split at hc
      · rename_i fd hf
        split at hc
        · rename_i n g q1 q2; exact s_field t x f hop hd hf q1 q2 hc he h hs
        · cases hc
      · cases hc
    · cases hc
  · rename_i t x i hop
    split at hc
    · rename_i e hd
      split at hc
      · rename_i n q1; exact s_ia t x i hop hd q1 hc he h hs
      · cases hc
    · rename_i len e hd
      split at hc
      · rename_i n q1; exact s_iap t x i hop hd q1 hc he h hs
      · cases hc
    · cases hc
  · rename_i t x i hop
    split at hc
    · rename_i hd; exact s_idxS t x i hop hd hc he h hs
    · rename_i len e hd
      split at hc
      · rename_i n g q1 q2; exact s_idxA t x i hop hd q1 q2 hc he h hs
      · cases hc
    · cases hc
  · rename_i t x i ok hop
    split at hc
    · rename_i k e hd
      split at hc
      · rename_i z ck q1 q2; exact s_look t x i ok hop hd q1 q2 hc he h hs
      · cases hc
    · cases hc
  · rename_i t m k x hop
    split at hc
    · rename_i kt e hd
      split at hc
      · rename_i ck q1; exact s_mset t m k x (.inl hop) hd q1 hc he h hs
      · cases hc
    · cases hc
  · rename_i t m k x hop
    split at hc
    · rename_i kt e hd
      split at hc
      · rename_i ck q1; exact s_mset t m k x (.inr hop) hd q1 hc he h hs
      · cases hc
    · cases hc
  · rename_i x i hop; exact s_ext x i hop hc he h hs
  · rename_i x hop; exact s_fail x hc hs
  · rename_i t x hop; exact s_fail x hc hs
  · rename_i c hop; exact call_sound c hop hc hn he h hs
  · cases hc

end
end Go.Am
