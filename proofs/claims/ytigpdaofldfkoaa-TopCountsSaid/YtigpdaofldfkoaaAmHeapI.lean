/- Contracts of package heap: New, the notes, Settle. -/
import Derived.Test.YtigpdaofldfkoaaAmHeapH
set_option linter.unusedVariables false
set_option linter.unusedSimpArgs false
namespace Go.Am
variable {T : Tab}
def Hp.none : Hp := ⟨[], [], []⟩
/-- How the notes go on, in at most so many steps. -/
def nextR : Nat → Hp → Hp × Int × Bool
  | 0, S => (S, 0, false)
  | n + 1, S =>
    match S.notes with
    | [] => (S, 0, false)
    | a :: r =>
      let S1 : Hp := { S with notes := r }
      if 0 < (nth S.cells a).n ∨ (nth S.cells a).e = true then nextR n S1
      else if (nth S.cells a).w = true ∧ (nth S.cells a).t = false then (rootR (setC S1 a { nth S.cells a with t := true }) a, a, true)
      else nextR n (endR S1 a)
/-- What makes it safe. -/
structure Fits (S : Hp) (a : Int) : Prop where
  h0 : 0 ≤ a
  h1 : a < S.cells.length
  cl : S.cells.length < 2 ^ 40
  fl : ∀ c ∈ S.cells, c.fs.length < 2 ^ 40
  bnd : Bnd S
  rt : -(2 ^ 60) ≤ rget S.roots a ∧ rget S.roots a ≤ 2 ^ 60
structure EPre (S : Hp) (a : Int) (f : Nat) : Prop where
  h1 : a < S.cells.length
  f1 : f < (nth S.cells a).fs.length
  to : ToIn S a f
  bnd : Bnd S
def SafeN : Nat → Hp → Prop
  | 0, _ => False
  | n + 1, S =>
    match S.notes with
    | [] => True
    | a :: r =>
      Fits S a ∧
      (if 0 < (nth S.cells a).n ∨ (nth S.cells a).e = true then SafeN n { S with notes := r }
       else if (nth S.cells a).w = true ∧ (nth S.cells a).t = false then True
       else (∀ j, j < (nth S.cells a).fs.length → EPre (emptiesR (weakR (setC { S with notes := r } a { nth S.cells a with e := true }) a) a j) a j) ∧ SafeN n (endR { S with notes := r } a))
section
variable {k : Nat} {tg tg' : Tags} {H H' : AHeap} {b : Nat} {lk : Int} {S : Hp} {fb m : Nat} {cv nv : AV} {fc fn : Option Nat} {xs : List (AV × Cel)} {ff : Nat → Option Nat}
theorem c320 (D : D320 T) (k : Nat) (hw : WF H) (hk : TagOk tg H) : Calls T 320 [] H fun r K => r = .ptr (some (H.next + 1, 0)) ∧ To k tg H (H.next + 1) 0 Hp.none K := by
  refine Calls.fn D.pr D.fn ?_
  have hbld : psem (.bld [.int .i32 0, .int .u32 0, .slc none 0 0 none, .map none, .slc none 0 0 none] [(3, 1)]) [.map (some H.next)] = some (.agg [.int .i32 0, .int .u32 0, .slc none 0 0 none, .map (some H.next), .slc none 0 0 none]) := by simp [psem_bld', fill, AV.cells, AV.cell, splice]
  simp [ir320, hbld, AV.cells, AV.cell]
  obtain ⟨m1, m2, m3⟩ := hw.newMap
  have nx : H.newMap.next = H.next + 1 := rfl
  refine ⟨nx, upd (upd tg H.next (some (k, .roots))) (H.next + 1) (some (k, .str)), ?_, H.next + 1, H.next, .slc none 0 0 none, .slc none 0 0 none, none, none, [], fun _ => none, ?_⟩
  · refine ⟨m1.new, fun g hg => ?_, (m3 _).trans m1.keeps_new, fun g => ?_⟩
    · have hg : H.next + 1 + 1 ≤ g := hg
      rw [upd_ne _ _ _ (by omega), upd_ne _ _ _ (by omega)]; exact hk g (by omega)
    · by_cases e : g = H.next + 1
      · subst e; exact .inr ⟨.inr (by omega), fun j t ht => by rw [upd_same] at ht; simp at ht; exact ht.1.symm⟩
      · by_cases e' : g = H.next
        · subst e'; exact .inr ⟨.inr (by omega), fun j t ht => by rw [upd_ne _ _ _ e, upd_same] at ht; simp at ht; exact ht.1.symm⟩
        · exact .inl (by rw [upd_ne _ _ _ e, upd_ne _ _ _ e'])
  · have bx := Box.new (H := H.newMap) (cs := [.int .i32 0, .int .u32 0, .slc none 0 0 none, .map (some H.next), .slc none 0 0 none])
    rw [nx] at bx
    refine ⟨bx, upd_same _ _ _, Own.nil (by simp), by simp, Own.nil (by simp), by simp, rfl, fun i x hx => by simp at hx, ?_, by rw [upd_ne _ _ _ (by omega), upd_same]⟩
    exact m2.keeps (m1.keeps_new (D := fun _ => False)) (by simp)
theorem c358 (D : D358 T) (hw : WF H) (hk : TagOk tg H) (h : HpR k tg H b lk S) {n : Nat} (hs : SafeN n S) :
    Calls T 358 [.ptr (some (b, 0))] H fun r K => r = .tup [.int .i64 (nextR n S).2.1, .bool (nextR n S).2.2] ∧ To k tg H b lk (nextR n S).1 K := by
  refine Calls.fn D.pr D.fn ?_
  simp [ir358]
  refine W_loop (fun (i : Nat) e K => e 0 = .ptr (some (b, 0)) ∧ ∃ S', SafeN i S' ∧ nextR i S' = nextR n S ∧ ∃ tg', Up k tg tg' H K ∧ HpR k tg' K b lk S') id n ?_ ?_
  · exact ⟨by simp, S, hs, rfl, tg, Up.refl hw hk, h⟩
  · rintro i e K ⟨x0, S', hs', hn', tg', u, g⟩
    cases i with
    | zero => exact hs'.elim
    | succ i =>
      obtain ⟨fb, m, cv, nv, fc, fn, xs, ff, g⟩ := g
      cases hnt : S'.notes with
      | nil =>
        have hR : nextR (i + 1) S' = (S', 0, false) := by simp [nextR, hnt]
        rw [← hn', hR]
        simp [x0, g.ldn, g.lenN, hnt]
        exact ⟨tg', u, _, _, _, _, _, _, _, _, g⟩
      | cons a r =>
        have hs2 : Fits S' a ∧ (if 0 < (nth S'.cells a).n ∨ (nth S'.cells a).e = true then SafeN i { S' with notes := r }
          else if (nth S'.cells a).w = true ∧ (nth S'.cells a).t = false then True
          else (∀ j, j < (nth S'.cells a).fs.length → EPre (emptiesR (weakR (setC { S' with notes := r } a { nth S'.cells a with e := true }) a) a j) a j) ∧ SafeN i (endR { S' with notes := r } a)) := by
          simpa [SafeN, hnt] using hs'
        obtain ⟨ft, hs2⟩ := hs2
        have hR : nextR (i + 1) S' = (if 0 < (nth S'.cells a).n ∨ (nth S'.cells a).e = true then nextR i { S' with notes := r }
          else if (nth S'.cells a).w = true ∧ (nth S'.cells a).t = false then (rootR (setC { S' with notes := r } a { nth S'.cells a with t := true }) a, a, true)
          else nextR i (endR { S' with notes := r } a)) := by simp [nextR, hnt]
        rw [hR] at hn'
        obtain ⟨t1, t2, v', K1, t3, t4, t5, t6, t7, t8⟩ := g.tailNotes u.wf u.ok hnt
        have hvc : v'.cells = [v'] := by cases v' <;> simp_all [AV.cells, AV.cell]
        have t5' : wsem0 (.st 1) [.ptr (some (b, 4)), v'] K = some (.undef, K1) := by simp [wsem0_st, hvc, t5]
        have h1' : a < ({ S' with notes := r } : Hp).cells.length := ft.h1
        obtain ⟨bo, oo, e1, e2, e3, e4, e5, e6, _, stT, _⟩ := t8.cell t7.wf t7.ok ft.h0 h1'
        have ia := t8.ia (kk := .i64) ft.h0 h1'
        have hln : (S'.notes.length : Int) = r.length + 1 := by rw [hnt]; simp
        have hpos : 0 < S'.notes.length := by omega
        have u1 := u.trans hw t7
        by_cases c1 : 0 < (nth S'.cells a).n
        · rw [if_pos (.inl c1)] at hn' hs2
          simp [x0, g.ldn, g.lenN, hpos, t1, t2, t3, t5', t8.ldc, ia, e1, e6, c1]
          exact ⟨i, by omega, _, hs2, hn', tg', u1, _, _, _, _, _, _, _, _, t8⟩
        · cases he : (nth S'.cells a).e with
          | true =>
            rw [if_pos (.inr he)] at hn' hs2
            simp [x0, g.ldn, g.lenN, hpos, t1, t2, t3, t5', t8.ldc, ia, e1, e6, c1, e5, he]
            exact ⟨i, by omega, _, hs2, hn', tg', u1, _, _, _, _, _, _, _, _, t8⟩
          | false =>
            have c2 : ¬ (0 < (nth S'.cells a).n ∨ (nth S'.cells a).e = true) := by simp [he]; omega
            rw [if_neg c2] at hn' hs2
            have toEnd : ¬ ((nth S'.cells a).w = true ∧ (nth S'.cells a).t = false) → ∀ e', e' 0 = .ptr (some (b, 0)) → WC T 382 [.ptr (some (b, 0)), .int .i64 a] (some 34) [] e' K1 [Fm.block 2, Fm.block 1] (LR T (fun (i : Nat) e K => e 0 = .ptr (some (b, 0)) ∧ ∃ S', SafeN i S' ∧ nextR i S' = nextR n S ∧ ∃ tg', Up k tg tg' H K ∧ HpR k tg' K b lk S') id (i + 1)
                [Fm.block 0, Fm.seq (.seq (.region [⟨some 2, .p .mv, [.c (.int .i64 0)], none, []⟩, ⟨some 3, .p .mv, [.c (.bool false)], none, []⟩] false []) .ret)] (RR [.tmp 2, .tmp 3] fun r K => r = .tup [.int .i64 (nextR n S).2.1, .bool (nextR n S).2.2] ∧ To k tg H b lk (nextR n S).1 K)) := by
              intro c3 e' he0
              rw [if_neg c3] at hn' hs2
              refine WC.of (c382 D.d382 t7.wf t7.ok ⟨_, _, _, _, _, _, _, _, t8⟩ ft.h0 h1' ft.cl ft.fl ?_) ?_
              · intro j hj X tgx wx kx gx
                have ep := hs2.1 j hj
                exact c374 (D.d382.d374) wx kx gx ft.h0 ep.h1 (by omega) (by exact_mod_cast ep.f1) ep.to ep.bnd
              · rintro r' X ⟨rfl, tg2, u2, g2⟩
                simp
                exact ⟨i, by omega, by simpa using he0, _, hs2.2, hn', tg2, u1.trans hw u2, g2⟩
            have he' : (nth S'.cells a).e = false := he
            cases hwt : (nth S'.cells a).w with
            | false =>
              simp [x0, g.ldn, g.lenN, hpos, t1, t2, t3, t5', t8.ldc, ia, e1, e6, c1, e5, he, e3, hwt]
              exact toEnd (by simp [hwt]) _ (by simp [x0])
            | true =>
              cases htt : (nth S'.cells a).t with
              | true =>
                simp [x0, g.ldn, g.lenN, hpos, t1, t2, t3, t5', t8.ldc, ia, e1, e6, c1, e5, he, e3, hwt, e4, htt]
                exact toEnd (by simp [htt]) _ (by simp [x0])
              | false =>
                rw [if_pos ⟨hwt, htt⟩] at hn'
                obtain ⟨K2, r1, r2, r3, r4⟩ := stT true
                simp [x0, g.ldn, g.lenN, hpos, t1, t2, t3, t5', t8.ldc, ia, e1, e6, c1, e5, he, e3, hwt, e4, htt, r1]
                have hc : nth (setC { S' with notes := r } a { nth S'.cells a with t := true }).cells a = { nth S'.cells a with t := true } := by rw [setC_nth ft.h0 h1' ft.h0, if_pos rfl]
                have hbn := ft.bnd.n _ (nth_mem ft.h0 ft.h1)
                refine WC.of (c360 D.d360 r3.wf r3.ok (S := setC { S' with notes := r } a { nth S'.cells a with t := true }) ⟨_, _, _, _, _, _, _, _, r4⟩ (i := a) ft.h0 (by rw [setC_len]; exact h1') (by rw [hc]; simp only; omega) ft.rt) ?_
                rintro r' X ⟨rfl, tg2, u2, g2⟩
                simp
                rw [← hn']
                exact ⟨⟨rfl, rfl⟩, tg2, (u1.trans hw r3).trans hw u2, g2⟩
theorem c323 (D : D323 T) (hw : WF H) (hk : TagOk tg H) (h : HpR k tg H b 0 S) {n : Nat} (hs : SafeN n S) :
    Calls T 323 [.ptr (some (b, 0))] H fun r K => r = .tup [.int .i64 (nextR n S).2.1, .bool (nextR n S).2.2] ∧ To k tg H b 0 (nextR n S).1 K := by
  refine Calls.fnD D.pr D.fn ?_
  simp [ir323]
  refine WC.of (c357 D.d357 hw hk h) ?_
  rintro r K ⟨rfl, tg1, u1, h1⟩
  simp
  refine WC.of (c358 D.d358 u1.wf u1.ok h1 hs) ?_
  rintro r K ⟨rfl, tg2, u2, h2⟩
  simp
  exact unlock_to D.d357 hw (u1.trans hw u2) h2 fun K t => t
/-- Settle, in at most so many rounds; each one with so many steps. -/
def settleR : Nat → Nat → Hp → Hp × List Int
  | 0, _, S => (S, [])
  | m + 1, n, S =>
    if (nextR n S).2.2 = false then ((nextR n S).1, []) else
    ((settleR m n (unrootR (nextR n S).1 (nextR n S).2.1)).1, (nextR n S).2.1 :: (settleR m n (unrootR (nextR n S).1 (nextR n S).2.1)).2)
def SafeS : Nat → Nat → Hp → Prop
  | 0, _, _ => False
  | m + 1, n, S => SafeN n S ∧ ((nextR n S).2.2 = true → Fits (nextR n S).1 (nextR n S).2.1 ∧ SafeS m n (unrootR (nextR n S).1 (nextR n S).2.1))
/-- A list of numbers that belongs to nobody. -/
def Free (tg : Tags) (H : AHeap) (n : Nat) (v : AV) (l : List Int) : Prop := ∃ f, Own encI 1 H v l f ∧ ∀ g, f = some g → n ≤ g ∧ tg g = Option.none
theorem Free.nil {n : Nat} : Free tg H n (.slc none 0 0 none) [] := ⟨none, Own.nil (by simp), by simp⟩
theorem Free.sl {n : Nat} {v : AV} {l : List Int} (h : Free tg H n v l) : Sl encI 1 H v l := h.choose_spec.1.1
theorem Free.up {n : Nat} {v : AV} {l : List Int} (h : Free tg H n v l) (hw : WF H) (u : Up k tg tg' H H') : Free tg' H' n v l := by
  obtain ⟨f, h1, h2⟩ := h
  have hno : ∀ g, f = some g → ¬tg.own k g := by
    rintro g hg ⟨t, ht⟩
    rw [(h2 g hg).2] at ht; cases ht
  refine ⟨f, h1.keeps hw u.keeps hno, fun g hg => ⟨(h2 g hg).1, ?_⟩⟩
  have hl := h1.2
  rw [hg] at hl
  have hl := hl.lt hw
  rcases u.tag g with e | ⟨e, _⟩
  · rw [e]; exact (h2 g hg).2
  · rcases e with e | e
    · exact absurd e (hno g hg)
    · omega
theorem Free.fr {n : Nat} {v : AV} {l : List Int} (h : Free tg H n v l) (hw : WF H) (u : Fr H H') : Free tg H' n v l := by
  obtain ⟨f, h1, h2⟩ := h
  exact ⟨f, h1.fr hw u, h2⟩
/-- One number more. -/
theorem Free.push {n : Nat} {v : AV} {l : List Int} (h : Free tg H n v l) (hw : WF H) (hk : TagOk tg H) (hn : n ≤ H.next) (x : Int) (hl : l.length < 2 ^ 40) :
    ∃ v' H', wsem0 (.app 1 8) [v, .slc (some (H.next, 0)) 1 1 (some 1)] (H.new [.int .i64 x]) = some (v', H') ∧ WF H' ∧ Free tg H' n v' (l ++ [x]) ∧ Keeps (fun g => n ≤ g ∧ tg g = Option.none) H H' := by
  obtain ⟨f, h1, h2⟩ := h
  obtain ⟨v', H', f', q1, q2, q3, q4, q5⟩ := push1 (bytes := 8) hw h1 x (by omega) (by omega)
  refine ⟨v', H', by simpa using q1, q2, ⟨f', q3, fun g hg => ?_⟩, q4.mono h2⟩
  rcases q5 g hg with e | e
  · exact h2 g e
  · exact ⟨by omega, hk g e⟩
theorem HpR.free (h : HpR k tg H b lk S) (hw : WF H) {n : Nat} (hf : Keeps (fun g => n ≤ g ∧ tg g = Option.none) H H') : HpR k tg H' b lk S := by
  obtain ⟨fb, m, cv, nv, fc, fn, xs, ff, h⟩ := h
  exact ⟨fb, m, cv, nv, fc, fn, xs, ff, h.keeps hw hf fun g t hg ht => ⟨(fun e => by have := e.2; rw [ht] at this; cases this), ht⟩⟩
theorem Up.step {K K' : AHeap} (u : Up k tg tg' H K) (hw0 : WF H) (hw : WF K') {D : Nat → Prop} (hf : Keeps D K K') (hD : ∀ g, D g → H.next ≤ g) : Up k tg tg' H K' :=
  ⟨hw, fun g hg => u.ok g (Nat.le_trans hf.next hg), Keeps.drop hw0 ((u.keeps.mono fun g hg => .inl hg).trans (hf.mono fun g hg => .inr (hD g hg))), u.tag⟩
theorem c339 (D : D339 T) (hw : WF H) (hk : TagOk tg H) (h : HpR k tg H b 0 S) {m n : Nat} (hs : SafeS m n S) (hm : m < 2 ^ 30) :
    Calls T 339 [.ptr (some (b, 0))] H fun r K => ∃ tg', Up k tg tg' H K ∧ HpR k tg' K b 0 (settleR m n S).1 ∧ Free tg' K H.next r (settleR m n S).2 := by
  refine Calls.fnD D.pr D.fn ?_
  simp [ir339]
  refine WC.of (c357 D.d357 hw hk h) ?_
  rintro r K ⟨rfl, tg1, u1, h1⟩
  simp
  refine W_loop (fun (i : Nat) e K => e 0 = .ptr (some (b, 0)) ∧ e 1048576 = .tup [.fn 381 [.ptr (some (b, 0))] []] ∧ ∃ S' l, l.length + i = m ∧ SafeS i n S' ∧ (settleR m n S).1 = (settleR i n S').1 ∧ (settleR m n S).2 = l ++ (settleR i n S').2 ∧ ∃ tg', Up k tg tg' H K ∧ HpR k tg' K b 1 S' ∧ ∃ ov, e 3 = ov ∧ Free tg' K H.next ov l) id m ?_ ?_
  · exact ⟨by simp, by simp, S, [], by simp, hs, rfl, by simp, tg1, u1, h1, _, rfl, .nil⟩
  · rintro i e K ⟨x0, xd, S', l, hl, hs', e1, e2, tg', u, g, ov, x3, fr⟩
    cases i with
    | zero => exact hs'.elim
    | succ i =>
      obtain ⟨sn, sx⟩ := hs'
      simp [x0]
      refine WC.of (c358 D.d358 u.wf u.ok g sn) ?_
      rintro r X ⟨rfl, tg2, u2, g2⟩
      have fr2 := fr.up u.wf u2
      have hn := (u.trans hw u2).keeps.next
      cases hb : (nextR n S').2.2 with
      | false =>
        have hR : settleR (i + 1) n S' = ((nextR n S').1, []) := by unfold settleR; rw [if_pos hb]
        simp [x3, xd]
        rw [e1, e2, hR, List.append_nil]
        refine (unlock D.d357.d381 u2.wf u2.ok g2).imp ?_
        rintro Y ⟨tg3, u3, g3⟩
        exact ⟨tg3, (u.trans hw u2).trans hw u3, g3, fr2.up u2.wf u3⟩
      | true =>
        have hR : settleR (i + 1) n S' = ((settleR i n (unrootR (nextR n S').1 (nextR n S').2.1)).1, (nextR n S').2.1 :: (settleR i n (unrootR (nextR n S').1 (nextR n S').2.1)).2) := by
          conv => lhs; unfold settleR
          rw [if_neg (by simp [hb])]
        obtain ⟨ft, sr⟩ := sx hb
        obtain ⟨S2, hS2⟩ : ∃ S2, (nextR n S').1 = S2 := ⟨_, rfl⟩
        obtain ⟨a, ha⟩ : ∃ a, (nextR n S').2.1 = a := ⟨_, rfl⟩
        rw [hS2, ha] at hR ft sr
        rw [hS2] at g2
        have hb1 := wsem0_bsl1 (v := .int .i64 a) (z := .int .i64 0) (H := X) rfl
        obtain ⟨v', Y, q1, q2, q3, q4⟩ := fr2.push u2.wf u2.ok hn a (by omega)
        simp [x3, ha, hb1, q1, x0]
        have uY := (u.trans hw u2).step hw q2 q4 fun g hg => hg.1
        have gY := g2.free u2.wf q4
        have hbn := ft.bnd.n _ (nth_mem ft.h0 ft.h1)
        refine WC.of (c361 D.d361 q2 uY.ok gY ft.h0 ft.h1 (by omega) ft.rt (by have := ft.bnd.notes; omega)) ?_
        rintro r' Z ⟨rfl, tg4, u4, g4⟩
        simp
        refine ⟨i, by omega, x0, xd, _, l ++ [a], by simp; omega, sr, by rw [e1, hR], by rw [e2, hR]; simp, tg4, uY.trans hw u4, g4, ?_⟩
        exact q3.up q2 u4
end
end Go.Am
