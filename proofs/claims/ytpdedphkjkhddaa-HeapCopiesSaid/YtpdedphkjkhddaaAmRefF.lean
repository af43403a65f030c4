/- Contracts of the reference's heap: how the notes go on, Settle. -/
import Derived.Test.YtpdedphkjkhddaaAmRefsA
import Derived.Test.YtpdedphkjkhddaaAmHeapI
set_option linter.unusedVariables false
set_option linter.unusedSimpArgs false
namespace Go.Am
variable {T : Tab}
section
variable {k : Nat} {tg tg' : Tags} {H0 H H' : AHeap} {b : Nat} {S : Rp} {fb : Nat} {cv nv : AV} {fc fn : Option Nat} {xs : List (AV × Cel)} {ff : Nat → Option Nat}
/-- The notes' list is one that was made just now. -/
theorem RpI.putNotes (h : RpI k tg H b S fb cv nv fc fn xs ff) (hw : WF H) (hk : TagOk tg H) {v' : AV} {H1 : AHeap} {l : List Int} {f' : Option Nat} (q2 : WF H1) (q3 : Own encI 1 H1 v' l f') (q4 : Keeps (fun g => fn = some g) H H1) (q5 : ∀ g, f' = some g → fn = some g ∨ H.next ≤ g) :
    ∃ H2 tg' f', v'.cell = true ∧ H1.st b 1 [v'] = some H2 ∧ Up k tg tg' H H2 ∧ RpI k tg' H2 b { S with notes := l } fb cv v' fc f' xs ff := by
  have hn : H.next ≤ H1.next := q4.next
  -- the tags
  have ok1 : TagOk tg H1 := fun g hg => hk g (by omega)
  obtain ⟨tg', ht, htn, hold⟩ : ∃ tg' : Tags, Up k tg tg' H H1 ∧ (∀ g, f' = some g → tg' g = some (k, .notes)) ∧ ∀ g, g < H.next → tg' g = tg g := by
    have up1 : Up k tg tg H H1 := ⟨q2, ok1, q4.mono fun g e => ⟨_, h.tn g e⟩, fun _ => .inl rfl⟩
    cases f' with
    | none => exact ⟨tg, up1, (by intro g hg; cases hg), fun _ _ => rfl⟩
    | some g =>
      rcases q5 g rfl with e | e
      · exact ⟨tg, up1, (by intro g' hg; simp at hg; subst hg; exact h.tn _ e), fun _ _ => rfl⟩
      · have hlt := q3.2.lt q2
        exact ⟨upd tg g (some (k, .notes)), up1.put e hlt, (by intro g' hg; simp at hg; subst hg; exact upd_same _ _ _), fun g' hg' => upd_ne _ _ _ (by omega)⟩
  have l1 := hw.row_fam h.box.row
  have hb1 : Box H1 b fb [cv, nv] := h.box.keeps hw q4 fun e => h.ne (h.tn _ e) h.tb (by simp) rfl
  have tb' : tg' fb = some (k, .str) := by rw [hold _ l1]; exact h.tb
  obtain ⟨H2, r1, r2, r3, r4, r5⟩ := hb1.st q2 (off := 1) (vs := [v']) (by simp) (by simpa using q3.1.form.1)
  rw [splice_one (by simp)] at r3
  have up2 : Up k tg' tg' H1 H2 := Up.one ht.ok tb' r2 r5 r4
  have ne' : ∀ {g t}, tg' g = some (k, t) → t ≠ .str → g ≠ fb := by
    intro g t hg hne e; subst e; rw [tb'] at hg; simp at hg; exact hne hg.symm
  refine ⟨H2, tg', f', q3.1.form.1, r1, ht.trans hw up2, by simpa using r3, tb', ?_, ?_, q3.keeps q2 r4 fun g hg => ne' (htn g hg) (by simp), htn, h.xc, ?_⟩
  · exact (h.cs.keeps hw q4 fun g hg e => h.ne (h.tn _ e) (h.tc g hg) (by simp) rfl).keeps q2 r4 fun g hg => h.ne (h.tc g hg) h.tb (by simp)
  · intro g hg; rw [hold g (by have := h.cs.2; rw [hg] at this; exact this.lt hw)]; exact h.tc g hg
  · intro i y hy
    obtain ⟨p1, p2⟩ := h.fs i y hy
    refine ⟨(p1.keeps hw q4 fun g hg e => h.ne (h.tn _ e) (p2 g hg) (by simp) rfl).keeps q2 r4 fun g hg => h.ne (p2 g hg) h.tb (by simp), fun g hg => ?_⟩
    rw [hold g (by have := p1.2; rw [hg] at this; exact this.lt hw)]; exact p2 g hg
/-- The first note is gone, and the others are copied. -/
theorem RpI.copyNotes (h : RpI k tg H b S fb cv nv fc fn xs ff) (hw : WF H) (hk : TagOk tg H) {x : Int} {l : List Int} (hl : S.notes = x :: l) (hb : S.notes.length < 2 ^ 40) :
    psem (.ia 1) [nv, .int .i64 0] = some (elt nv 1 0) ∧ rsem (.ld 1 false) [elt nv 1 0] H = some (.int .i64 x) ∧
    ∃ v v' H1 H2 tg' f', psem (.sl 1 true false false) [nv, .int .i64 1] = some v ∧ wsem0 (.app 1 8) [.slc none 0 0 none, v] H = some (v', H1) ∧ v'.cell = true ∧ H1.st b 1 [v'] = some H2 ∧ Up k tg tg' H H2 ∧ RpI k tg' H2 b { S with notes := l } fb cv v' fc f' xs ff := by
  have hlen : S.notes.length = l.length + 1 := by rw [hl]; rfl
  refine ⟨h.ns.1.ia (by omega) (by omega), ?_, ?_⟩
  · have := h.ns.1.ld (i := 0) (by omega) (by omega)
    rw [this, hl]; rfl
  · obtain ⟨v, _, q2, _, q3, _, _⟩ := h.ns.1.cut 1 S.notes.length (by omega) (by omega)
    have q3' : Sl encI 1 H v l := by rw [hl] at q3; simpa using q3
    obtain ⟨v', H1, f', p1, p2, p3, p4, p5⟩ := app_own (bytes := 8) hw (Own.nil (enc := encI) (sz := 1) (z := 0) (c := none) (by simp)) q3' (by omega) (Cell.all _) (by simp; omega) (by simp; omega)
    obtain ⟨H2, tg', f2, r1, r2, r3, r4⟩ := h.putNotes hw hk (l := l) p2 (by simpa using p3) (p4.mono fun g hg => by cases hg) fun g hg => (p5 g hg).elim (fun e => by cases e) .inr
    exact ⟨v, v', H1, H2, tg', f2, q2 .i64 rfl, p1, r1, r2, r3, r4⟩
/-! ### The notes go on -/
def nextQ : Nat → Rp → Rp × Int × Bool
  | 0, S => (S, 0, false)
  | n + 1, S =>
    match S.notes with
    | [] => (S, 0, false)
    | a :: r =>
      if (nth S.cells a).e = true ∨ 0 < countedR S a then nextQ n { S with notes := r }
      else if (nth S.cells a).w = true ∧ (nth S.cells a).t = false then (qset { S with notes := r } a { nth S.cells a with t := true, n := (nth S.cells a).n + 1 }, a, true)
      else nextQ n (endQ { S with notes := r } a)
structure FitsQ (S : Rp) (a : Int) : Prop where
  h0 : 0 ≤ a
  h1 : a < S.cells.length
  bnd : QBnd S
def SafeQ : Nat → Rp → Prop
  | 0, _ => False
  | n + 1, S =>
    match S.notes with
    | [] => True
    | a :: r =>
      FitsQ S a ∧
      (if (nth S.cells a).e = true ∨ 0 < countedR S a then SafeQ n { S with notes := r }
       else if (nth S.cells a).w = true ∧ (nth S.cells a).t = false then True
       else (∀ j, j < (nth S.cells a).fs.length → QBnd (emptiesQ (weakQ (qset { S with notes := r } a { nth S.cells a with e := true }) a) a j) ∧ QTo (emptiesQ (weakQ (qset { S with notes := r } a { nth S.cells a with e := true }) a) a j) a j) ∧ SafeQ n (endQ { S with notes := r } a))
theorem emptyQ_lens {S : Rp} {a f : Int} (h0 : 0 ≤ a) (h1 : a < S.cells.length) : (emptyQ S a f).cells.length = S.cells.length ∧ (nth (emptyQ S a f).cells a).fs.length = (nth S.cells a).fs.length := by
  rw [emptyQ_cells, List.length_set, nth_set h0 h1 h0, if_pos rfl]
  simp
theorem emptiesQ_lens {S : Rp} {a : Int} (h0 : 0 ≤ a) (h1 : a < S.cells.length) : ∀ n, (emptiesQ S a n).cells.length = S.cells.length ∧ (nth (emptiesQ S a n).cells a).fs.length = (nth S.cells a).fs.length
  | 0 => ⟨rfl, rfl⟩
  | n + 1 => by
    obtain ⟨e1, e2⟩ := emptiesQ_lens h0 h1 n
    obtain ⟨e3, e4⟩ := emptyQ_lens (S := emptiesQ S a n) (a := a) (f := n) h0 (by rw [e1]; exact h1)
    exact ⟨e3.trans e1, e4.trans e2⟩
theorem weakQ_lens {S : Rp} {a : Int} (h0 : 0 ≤ a) (h1 : a < S.cells.length) : (weakQ S a).cells.length = S.cells.length ∧ (nth (weakQ S a).cells a).fs.length = (nth S.cells a).fs.length := by
  refine ⟨by simp [weakQ], ?_⟩
  have e1 := nth_eq (l := (weakQ S a).cells) (i := a) h0 (by simp [weakQ]; omega)
  have e2 := nth_eq (l := S.cells) (i := a) h0 h1
  simp only [weakQ, List.getElem?_map, e2, Option.map_some, Option.some.injEq] at e1
  simp only [weakQ, ← e1]
  simp [clrC]
theorem c352 (D : D352 T) (hw : WF H) (hk : TagOk tg H) (h : RpR k tg H b S) {n : Nat} (hs : SafeQ n S) :
    Calls T 352 [.ptr (some (b, 0))] H fun r K => r = .tup [.int .i64 (nextQ n S).2.1, .bool (nextQ n S).2.2] ∧ ToQ k tg H b (nextQ n S).1 K := by
  refine Calls.fn D.pr D.fn ?_
  simp [ir352]
  refine W_loop (fun (i : Nat) e K => e 0 = .ptr (some (b, 0)) ∧ ∃ S', SafeQ i S' ∧ nextQ i S' = nextQ n S ∧ ∃ tg', Up k tg tg' H K ∧ RpR k tg' K b S') id n ?_ ?_
  · exact ⟨by simp, S, hs, rfl, tg, Up.refl hw hk, h⟩
  · rintro i e K ⟨x0, S', hs', hn', tg', u, g⟩
    cases i with
    | zero => exact hs'.elim
    | succ i =>
      obtain ⟨fb, cv, nv, fc, fn, xs, ff, g⟩ := g
      cases hnt : S'.notes with
      | nil =>
        have hR : nextQ (i + 1) S' = (S', 0, false) := by simp [nextQ, hnt]
        rw [← hn', hR]
        simp [x0, g.ldn, g.lenN, hnt]
        exact ⟨tg', u, _, _, _, _, _, _, _, g⟩
      | cons a r =>
        have hs2 : FitsQ S' a ∧ (if (nth S'.cells a).e = true ∨ 0 < countedR S' a then SafeQ i { S' with notes := r }
          else if (nth S'.cells a).w = true ∧ (nth S'.cells a).t = false then True
          else (∀ j, j < (nth S'.cells a).fs.length → QBnd (emptiesQ (weakQ (qset { S' with notes := r } a { nth S'.cells a with e := true }) a) a j) ∧ QTo (emptiesQ (weakQ (qset { S' with notes := r } a { nth S'.cells a with e := true }) a) a j) a j) ∧ SafeQ i (endQ { S' with notes := r } a)) := by
          simpa [SafeQ, hnt] using hs'
        obtain ⟨ft, hs2⟩ := hs2
        have hR : nextQ (i + 1) S' = (if (nth S'.cells a).e = true ∨ 0 < countedR S' a then nextQ i { S' with notes := r }
          else if (nth S'.cells a).w = true ∧ (nth S'.cells a).t = false then (qset { S' with notes := r } a { nth S'.cells a with t := true, n := (nth S'.cells a).n + 1 }, a, true)
          else nextQ i (endQ { S' with notes := r } a)) := by simp [nextQ, hnt]
        rw [hR] at hn'
        have hbn := ft.bnd.n _ (nth_mem ft.h0 ft.h1)
        obtain ⟨t1, t2, v, v', K0, K1, tg1, f1, t3, t4, t5, t6, t7, t8⟩ := g.copyNotes u.wf u.ok hnt (by have := ft.bnd.notes; omega)
        have h1' : a < ({ S' with notes := r } : Rp).cells.length := ft.h1
        obtain ⟨bo, oo, e1, e2, e3, e4, e5, e6, _⟩ := t8.cell t7.wf t7.ok ft.h0 h1'
        have ia := t8.ia (kk := .i64) ft.h0 h1'
        have hpos : 0 < S'.notes.length := by rw [hnt]; simp
        have u1 := u.trans hw t7
        have hcnt : countedR { S' with notes := r } a = countedR S' a := rfl
        cases he : (nth S'.cells a).e with
        | true =>
          rw [if_pos (.inl he)] at hn' hs2
          simp [x0, g.ldn, g.lenN, hpos, t1, t2, t3, t4, wsem_st4 t5 t6, t8.ldc, ia, e1, e5, he]
          exact ⟨i, by omega, _, hs2, hn', tg1, u1, _, _, _, _, _, _, _, t8⟩
        | false =>
          simp [x0, g.ldn, g.lenN, hpos, t1, t2, t3, t4, wsem_st4 t5 t6, t8.ldc, ia, e1, e5, he]
          refine WC.of (c378 D.d378 t7.wf t7.ok t8 ft.bnd.shp ft.h0 h1' (by simp only; omega)) ?_
          rintro rr K2 ⟨rfl, fr2⟩
          have g2 := t8.fr t7.wf fr2
          have up2 : Up k tg1 tg1 K1 K2 := Up.fr t7.wf t7.ok fr2
          have u2 := u1.trans hw up2
          rw [hcnt]
          by_cases hc : 0 < countedR S' a
          · rw [if_pos (.inr hc)] at hn' hs2
            simp [hc]
            exact ⟨i, by omega, x0, _, hs2, hn', tg1, u2, _, _, _, _, _, _, _, g2⟩
          · have c2 : ¬ ((nth S'.cells a).e = true ∨ 0 < countedR S' a) := by simp [he]; omega
            rw [if_neg c2] at hn' hs2
            obtain ⟨bo2, oo2, d1, d2, d3, d4, d5, d6, _, stT, _⟩ := g2.cell up2.wf up2.ok ft.h0 h1'
            have ia2 := g2.ia (kk := .i64) ft.h0 h1'
            have toEnd : ¬ ((nth S'.cells a).w = true ∧ (nth S'.cells a).t = false) → Calls T 379 [.ptr (some (b, 0)), .int .i64 a] K2 fun r' X => r' = .tup [] ∧ ToQ k tg1 K2 b (endQ { S' with notes := r } a) X ∧ SafeQ i (endQ { S' with notes := r } a) ∧ nextQ i (endQ { S' with notes := r } a) = nextQ n S := by
              intro c3
              rw [if_neg c3] at hn' hs2
              have hl0 := qset_len (S := { S' with notes := r }) (i := a) (c := { nth S'.cells a with e := true })
              have h1s : a < (qset { S' with notes := r } a { nth S'.cells a with e := true }).cells.length := by rw [hl0]; exact h1'
              have hf0 : (nth (qset { S' with notes := r } a { nth S'.cells a with e := true }).cells a).fs.length = (nth S'.cells a).fs.length := by rw [qset_nth ft.h0 h1' ft.h0, if_pos rfl]
              obtain ⟨w1, w2⟩ := weakQ_lens ft.h0 h1s
              have lens : ∀ m, (emptiesQ (weakQ (qset { S' with notes := r } a { nth S'.cells a with e := true }) a) a m).cells.length = S'.cells.length ∧ (nth (emptiesQ (weakQ (qset { S' with notes := r } a { nth S'.cells a with e := true }) a) a m).cells a).fs.length = (nth S'.cells a).fs.length := by
                intro m
                obtain ⟨z1, z2⟩ := emptiesQ_lens ft.h0 (by rw [w1]; exact h1s) m
                exact ⟨by rw [z1, w1, hl0], by rw [z2, w2, hf0]⟩
              have hlen8 := ft.bnd.shp.len
              refine (c379 D.d379 up2.wf up2.ok ⟨_, _, _, _, _, _, _, g2⟩ ft.h0 h1' (by simp only; omega) (fun c hc' => by have := ft.bnd.shp.fl c hc'; omega) (fun m _ => lens m) ?_).imp ?_
              · intro j hj X tgx wx kx gx
                obtain ⟨ep1, ep2⟩ := hs2.1 j hj
                obtain ⟨z1, z2⟩ := lens j
                exact c377 D.d379.d377 wx kx gx ep1 ft.h0 (by rw [z1]; exact ft.h1) (by omega) (by rw [z2]; exact_mod_cast hj) ep2
              · rintro r' X ⟨rfl, t⟩
                exact ⟨rfl, t, hs2.2, hn'⟩
            cases hwt : (nth S'.cells a).w with
            | false =>
              simp [hc, x0, g2.ldc, ia2, d1, d3, hwt]
              refine WC.of (toEnd (by simp [hwt])) ?_
              rintro r' X ⟨rfl, ⟨tg2, u3, g3⟩, q1, q2⟩
              simp
              exact ⟨i, by omega, x0, _, q1, q2, tg2, u2.trans hw u3, g3⟩
            | true =>
              cases htt : (nth S'.cells a).t with
              | true =>
                simp [hc, x0, g2.ldc, ia2, d1, d3, hwt, d4, htt]
                refine WC.of (toEnd (by simp [htt])) ?_
                rintro r' X ⟨rfl, ⟨tg2, u3, g3⟩, q1, q2⟩
                simp
                exact ⟨i, by omega, x0, _, q1, q2, tg2, u2.trans hw u3, g3⟩
              | false =>
                rw [if_pos ⟨hwt, htt⟩] at hn'
                obtain ⟨K3, r1, r2, r3, r4⟩ := stT true
                have h1'' : a < ({ ({ S' with notes := r } : Rp) with cells := ({ S' with notes := r } : Rp).cells.set a.toNat { nth ({ S' with notes := r } : Rp).cells a with t := true } } : Rp).cells.length := by simpa using h1'
                obtain ⟨bo3, oo3, f1, _, _, _, _, f6, _, _, _, stN⟩ := r4.cell r3.wf r3.ok ft.h0 h1''
                have ia3 := r4.ia (kk := .i64) ft.h0 h1''
                rw [d1] at f1
                simp only [AV.ptr.injEq, Option.some.injEq, Prod.mk.injEq] at f1
                obtain ⟨rfl, rfl⟩ := f1
                simp only at f6 stN
                have hnn : nth (S'.cells.set a.toNat { nth S'.cells a with t := true }) a = { nth S'.cells a with t := true } := by rw [nth_set ft.h0 ft.h1 ft.h0, if_pos rfl]
                rw [hnn] at f6 stN
                obtain ⟨K4, s1, s2, s3, s4⟩ := stN ((nth S'.cells a).n + 1)
                have s4' : ∃ ws, RpI k tg1 K4 b (qset { S' with notes := r } a { nth S'.cells a with t := true, n := (nth S'.cells a).n + 1 }) fb cv v' fc f1 ws ff := ⟨_, by simpa [qset] using s4⟩
                obtain ⟨ws, s4'⟩ := s4'
                simp (disch := omega) [hc, x0, g2.ldc, ia2, d1, d3, hwt, d4, htt, r1, r4.ldc, ia3, f6, wrap64, s1]
                rw [← hn']
                exact ⟨⟨rfl, rfl⟩, tg1, (u2.trans hw r3).trans hw s3, _, _, _, _, _, _, _, s4'⟩
/-! ### Settle -/
def settleQ : Nat → Nat → Rp → Rp × List Int
  | 0, _, S => (S, [])
  | m + 1, n, S =>
    if (nextQ n S).2.2 = false then ((nextQ n S).1, []) else
    ((settleQ m n (dropQ (nextQ n S).1 (nextQ n S).2.1).1).1, (nextQ n S).2.1 :: (settleQ m n (dropQ (nextQ n S).1 (nextQ n S).2.1).1).2)
def SafeT : Nat → Nat → Rp → Prop
  | 0, _, _ => False
  | m + 1, n, S => SafeQ n S ∧ ((nextQ n S).2.2 = true → QBnd (nextQ n S).1 ∧ (∀ c ∈ (nextQ n S).1.cells, 0 ≤ c.n) ∧ SafeT m n (dropQ (nextQ n S).1 (nextQ n S).2.1).1)
theorem RpR.free (h : RpR k tg H b S) (hw : WF H) {n : Nat} (hf : Keeps (fun g => n ≤ g ∧ tg g = Option.none) H H') : RpR k tg H' b S := by
  obtain ⟨fb, cv, nv, fc, fn, xs, ff, h⟩ := h
  exact ⟨fb, cv, nv, fc, fn, xs, ff, h.keeps hw hf fun g t hg ht => ⟨(fun e => by have := e.2; rw [ht] at this; cases this), ht⟩⟩
theorem c353 (D : D353 T) (hw : WF H) (hk : TagOk tg H) (h : RpR k tg H b S) {m n : Nat} (hs : SafeT m n S) (hm : m < 2 ^ 30) :
    Calls T 353 [.ptr (some (b, 0))] H fun r K => ∃ tg', Up k tg tg' H K ∧ RpR k tg' K b (settleQ m n S).1 ∧ Free tg' K H.next r (settleQ m n S).2 := by
  refine Calls.fn D.pr D.fn ?_
  simp [ir353]
  refine W_loop (fun (i : Nat) e K => e 0 = .ptr (some (b, 0)) ∧ ∃ S' l, l.length + i = m ∧ SafeT i n S' ∧ (settleQ m n S).1 = (settleQ i n S').1 ∧ (settleQ m n S).2 = l ++ (settleQ i n S').2 ∧ ∃ tg', Up k tg tg' H K ∧ RpR k tg' K b S' ∧ ∃ ov, e 3 = ov ∧ Free tg' K H.next ov l) id m ?_ ?_
  · exact ⟨by simp, S, [], by simp, hs, rfl, by simp, tg, Up.refl hw hk, h, _, rfl, .nil⟩
  · rintro i e K ⟨x0, S', l, hl, hs', e1, e2, tg', u, g, ov, x3, fr⟩
    cases i with
    | zero => exact hs'.elim
    | succ i =>
      obtain ⟨sn, sx⟩ := hs'
      simp [x0]
      refine WC.of (c352 D.d352 u.wf u.ok g sn) ?_
      rintro r X ⟨rfl, tg2, u2, g2⟩
      have fr2 := fr.up u.wf u2
      have hn := (u.trans hw u2).keeps.next
      cases hb : (nextQ n S').2.2 with
      | false =>
        have hR : settleQ (i + 1) n S' = ((nextQ n S').1, []) := by unfold settleQ; rw [if_pos hb]
        simp [x3]
        rw [e1, e2, hR, List.append_nil]
        exact ⟨tg2, u.trans hw u2, g2, fr2⟩
      | true =>
        have hR : settleQ (i + 1) n S' = ((settleQ i n (dropQ (nextQ n S').1 (nextQ n S').2.1).1).1, (nextQ n S').2.1 :: (settleQ i n (dropQ (nextQ n S').1 (nextQ n S').2.1).1).2) := by
          conv => lhs; unfold settleQ
          rw [if_neg (by simp [hb])]
        obtain ⟨ft, fp, sr⟩ := sx hb
        obtain ⟨S2, hS2⟩ : ∃ S2, (nextQ n S').1 = S2 := ⟨_, rfl⟩
        obtain ⟨a, ha⟩ : ∃ a, (nextQ n S').2.1 = a := ⟨_, rfl⟩
        rw [hS2, ha] at hR sr
        rw [hS2] at g2 ft fp
        have hb1 := wsem0_bsl1 (v := .int .i64 a) (z := .int .i64 0) (H := X) rfl
        obtain ⟨v', Y, q1, q2, q3, q4⟩ := fr2.push u2.wf u2.ok hn a (by omega)
        simp [x3, ha, hb1, q1, x0]
        have uY := (u.trans hw u2).step hw q2 q4 fun g hg => hg.1
        have gY := g2.free u2.wf q4
        refine WC.of (c351 D.d351 q2 uY.ok gY ft fp) ?_
        rintro r' Z ⟨rfl, tg4, u4, g4⟩
        simp
        refine ⟨i, by omega, x0, _, l ++ [a], by simp; omega, sr, by rw [e1, hR], by rw [e2, hR]; simp, tg4, uY.trans hw u4, g4, ?_⟩
        exact q3.up q2 u4
end
end Go.Am
