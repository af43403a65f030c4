/- The law HeapSettles. -/
import Derived.Test.YtpdedphkjkhddaaAmOnc
set_option linter.unusedVariables false
set_option linter.unusedSimpArgs false
namespace Go.Am
variable {T : Tab}
/-- What an act does to both, and what it tells. -/
structure Ac (A : Int) (H0 : AHeap) (b m : Nat) (es : List (Int × Int)) (Q : Rp) (r : AV) (K : AHeap) (tg : Tags) (S' : Hp) (Q' : Rp) (l : List Int) : Prop where
  d : Uno H0 tg K b S'
  mx : Mx tg K m es
  both : Both (A + 1) S' Q'
  ph : phi Q' ≤ phi Q + 12
  dry : Dry Q'
  told : Told Q Q' l
  fx : FreeX tg (fun g => g = m) K r l
  len : l.length ≤ 2 ^ 29
theorem FreeX.nil {tg : Tags} {E : Nat → Prop} {H : AHeap} : FreeX tg E H (.slc none 0 0 none) [] := ⟨none, Own.nil (by simp), by simp⟩
theorem c326t (D : D326 T) {H0 H : AHeap} {tg : Tags} {b m : Nat} {S : Hp} {Q : Rp} {A : Int} {es : List (Int × Int)} (d : Uno H0 tg H b S) (mx : Mx tg H m es) (hB : Both A S Q) (hA : A ≤ 2 ^ 40) (hA1 : 1 ≤ A) (hp : phi Q < 2 ^ 29) (hd : Dry Q) {o x y z : Int} {s : List UInt8} :
    Calls T 326 [.ptr (some (b, 0)), .agg [.int .i64 o, .int .i64 x, .int .i64 y, .int .i64 z, .str s]] H fun r K => ∃ tg' S' Q' l, Ac A H0 b m es Q r K tg' S' Q' l := by
  refine Calls.fn D.pr D.fn ?_
  have d1 := d.free (d.fr.wf.fr_new (cs := [.int .i64 o, .int .i64 x, .int .i64 y, .int .i64 z, .str s]))
  have mx1 := mx.free d.fr.wf (d.fr.wf.fr_new (cs := [.int .i64 o, .int .i64 x, .int .i64 y, .int .i64 z, .str s]))
  have bx := Box.new (H := H) (cs := [.int .i64 o, .int .i64 x, .int .i64 y, .int .i64 z, .str s])
  obtain ⟨K, hK⟩ : ∃ K, H.new [.int .i64 o, .int .i64 x, .int .i64 y, .int .i64 z, .str s] = K := ⟨_, rfl⟩
  rw [hK] at bx d1 mx1
  have l0 : rsem (.ld 1 false) [.ptr (some (H.next, 0))] K = some (.int .i64 o) := by simp [rsem, AHeap.ld, bx.row]
  have l1 : rsem (.ld 1 false) [.ptr (some (H.next, 1))] K = some (.int .i64 x) := by simp [rsem, AHeap.ld, bx.row]
  have l2 : rsem (.ld 1 false) [.ptr (some (H.next, 2))] K = some (.int .i64 y) := by simp [rsem, AHeap.ld, bx.row]
  have l3 : rsem (.ld 1 false) [.ptr (some (H.next, 3))] K = some (.int .i64 z) := by simp [rsem, AHeap.ld, bx.row]
  have l4 : rsem (.ld 1 false) [.ptr (some (H.next, 4))] K = some (.str s) := by simp [rsem, AHeap.ld, bx.row]
  have qn : ∀ c ∈ Q.cells, 0 ≤ c.n := fun c hc => (hB.good.n c hc).1
  simp [ir326, AV.cells, AV.cell, hK, l0, l4]
  refine WB.dec ?_ ?_
  · intro h0
    simp [l1]
    refine WC.of (p343 D.d343 d1.fr.wf d1.ok d1.hp hB hA hA1 hp) ?_
    rintro r K1 ⟨rfl, S1, ⟨tg1, u1, h1⟩, e1⟩
    simp
    have m1 := (make_law hd x (decide (s ≠ []))).1
    have t1 := told_make qn x (decide (s ≠ []))
    simp at m1 e1 t1
    exact ⟨tg1, S1, _, [], d1.up u1 h1, mx1.up d1.fr.wf u1, e1.both.mono (by omega), e1.ph, m1, t1, .nil, by simp⟩
  · intro h0
    simp
    refine WB.dec ?_ ?_
    · intro h1
      simp [l1, l2, l3]
      refine WC.of (p345 D.d345 d1.fr.wf d1.ok d1.hp hB hA hp) ?_
      rintro r K1 ⟨rfl, S1, ⟨tg1, u1, h1⟩, e1⟩
      simp
      have m1 := (set_law hd x y z (decide (s ≠ []))).1
      have t1 := told_set hB x y z (decide (s ≠ []))
      simp at m1 e1 t1
      exact ⟨tg1, S1, _, [], d1.up u1 h1, mx1.up d1.fr.wf u1, e1.both.mono (by omega), e1.ph, m1, t1, .nil, by simp⟩
    · intro h1
      simp
      refine WB.dec ?_ ?_
      · intro h2
        simp [l1, l2]
        refine WC.of (p346 D.d346 d1.fr.wf d1.ok d1.hp hB hA hp) ?_
        rintro r K1 ⟨rfl, S1, ⟨tg1, u1, h1⟩, e1⟩
        simp
        exact ⟨tg1, S1, _, [], d1.up u1 h1, mx1.up d1.fr.wf u1, e1.both.mono (by omega), e1.ph, (clear_law hd x y).1, told_clear x y, .nil, by simp⟩
      · intro h2
        simp
        refine WB.dec ?_ ?_
        · intro h3
          simp [l1]
          refine WC.of (p324 D.d324 d1.fr.wf d1.ok d1.hp hB hA hp) ?_
          rintro r K1 ⟨rfl, S1, ⟨tg1, u1, h1⟩, e1⟩
          simp
          exact ⟨tg1, S1, _, [], d1.up u1 h1, mx1.up d1.fr.wf u1, e1.both, e1.ph, (root_law hd x).1, told_root hB x, .nil, by simp⟩
        · intro h3
          simp
          refine WB.dec ?_ ?_
          · intro h4
            simp [l1]
            refine WC.of (p325 D.d325 d1.fr.wf d1.ok d1.hp hB hA hp) ?_
            rintro r K1 ⟨rfl, S1, ⟨tg1, u1, h1⟩, e1⟩
            simp
            exact ⟨tg1, S1, _, [], d1.up u1 h1, mx1.up d1.fr.wf u1, e1.both.mono (by omega), e1.ph, (drop_law hd x).1, told_drop x, .nil, by simp⟩
          · intro h4
            simp
            refine WB.dec ?_ ?_
            · intro h5
              simp
              refine WC.of (p323 D.d323 d1.fr.wf d1.ok d1.hp hB hA hp) ?_
              rintro r K1 ⟨rfl, S1, ⟨tg1, u1, h1⟩, e1⟩
              have tn := (told_next hA (2 ^ 29) hB hp (by omega)).1
              have dn := (next_law hA (2 ^ 29) hB hp (by omega) hd).1
              have d2 := d1.up u1 h1
              have mx2 := mx1.up d1.fr.wf u1
              obtain ⟨R, hR⟩ : ∃ R, nextQ (2 ^ 29) Q = R := ⟨_, rfl⟩
              rw [hR] at e1 tn dn
              rw [hR]
              cases ht : R.2.2 with
              | false =>
                rw [ht] at tn
                simp
                exact ⟨tg1, S1, _, [], d2, mx2, e1.both.mono (by omega), e1.ph, dn, by simpa using tn, .nil, by simp⟩
              | true =>
                rw [ht] at tn
                have hb1 := wsem0_bsl1 (v := .int .i64 R.2.1) (z := .int .i64 0) (H := K1) rfl
                simp [hb1]
                have ow := d2.fr.wf.own_new (enc := encI) (sz := 1) (l := [R.2.1]) (cs := [.int .i64 R.2.1]) (cap := some 1) (by intro x _; rfl) (by simp) (by simp) (by simp [encI, AV.cells])
                have fn := d2.fr.wf.fr_new (cs := [AV.int .i64 R.2.1])
                have hmlt := mx2.mp.lt d2.fr.wf
                have hok := d2.ok _ (Nat.le_refl _)
                exact ⟨tg1, S1, _, [R.2.1], d2.free fn, mx2.free d2.fr.wf fn, e1.both.mono (by omega), e1.ph, dn, by simpa using tn, ⟨_, ow, fun g hg => by cases hg; exact ⟨by omega, hok⟩⟩, by simp⟩
            · intro h5
              simp
              refine WB.dec ?_ ?_
              · intro h6
                simp
                refine WC.of (p339 D.d339 d1.fr.wf d1.ok d1.hp hB hA hp) ?_
                rintro r K1 ⟨S1, tg1, u1, h1, e1, f1⟩
                have hmlt := mx1.mp.lt d1.fr.wf
                simp
                exact ⟨tg1, S1, _, _, d1.up u1 h1, mx1.up d1.fr.wf u1, e1.both.mono (by omega), e1.ph, settle_law hA _ hB (by omega) (by omega) (by omega) hd, (told_settle hA (2 ^ 29) hB hp hp (by omega)).1, f1.x.mono fun g hg => by omega, settleQ_len⟩
              · intro h6
                simp
                exact ⟨tg, S, Q, [], d1, mx1, hB.mono (by omega), by omega, hd, .refl Q, .nil, by simp⟩
theorem count_take {L : List Int} {j : Nat} (hj : j < L.length) (a : Int) : (L.take (j + 1)).count a = (L.take j).count a + (if nth L (j : Int) = a then 1 else 0) := by
  rw [take_nth hj, List.count_append, List.count_singleton]
  congr 1
  by_cases h : nth L (j : Int) = a <;> simp [h]
theorem state_count {Q : Rp} {A : Int} {S : Hp} (hB : Both A S Q) (hN : Noted Q) (hn : Q.notes = []) (i : Int) :
    (stateR Q.hp i).2 = (countQ Q i).2 ∧ ((stateR Q.hp i).2 = 0 → (stateR Q.hp i).1 ≠ 2 → 0 < (countQ Q i).1) := by
  unfold stateR countQ
  by_cases hz : hasR Q.hp i false ≠ 0
  · rw [if_pos hz, if_pos hz]
    exact ⟨rfl, fun h => absurd h hz⟩
  · rw [if_neg hz, if_neg hz]
    obtain ⟨q1, q2, _⟩ := hasR_in (Decidable.not_not.1 hz)
    simp only [Rp.hp_cells] at q2
    by_cases he : (nth Q.hp.cells i).e = true
    · rw [if_pos he]; exact ⟨rfl, fun _ h => absurd rfl h⟩
    · rw [if_neg he]
      replace he : (nth Q.cells i).e = false := by simpa using he
      refine ⟨by split <;> rfl, fun _ _ => ?_⟩
      rw [hB.good.counted q1 q2]
      have gn := (hB.good.n _ (nth_mem q1 q2)).1
      apply Classical.byContradiction
      intro hc
      have := hN i q1 q2 he (by simp only at hc; omega)
      rw [hn] at this
      cases this
theorem c317 (D : D317 T) {H : AHeap} (hw : WF H) {v : AV} {l : List Act} (hl : Sl encAct 5 H v l) : Calls T 317 [v] H fun r K => r = .bool true := by
  refine Calls.fn D.pr D.fn ?_
  simp [ir317, hl.len]
  refine WB.dec ?_ ?_
  · intro h0
    simp
    refine WC.of (c319 D.d319 hw) ?_
    rintro r K rfl
    simp
  · intro h0
    simp
    refine WC.of (c320 (tg := fun _ => none) D.d320 0 hw (fun _ _ => rfl)) ?_
    rintro r K ⟨rfl, tg1, u1, h1⟩
    obtain ⟨e1, e2⟩ := upNew (H0 := H) (Fr.refl hw) (fun g j t ht => by cases ht) u1
    have d : Uno H tg1 K (H.next + 1) Hp.none := ⟨e1, u1.ok, e2, h1⟩
    obtain ⟨w1, w2, w3⟩ := u1.wf.newMap
    have d1 := d.free ⟨w1, w3 _⟩
    have mx1 : Mx tg1 K.newMap K.next [] := ⟨w2, d.ok _ (Nat.le_refl _)⟩
    have hmn : H.next ≤ K.next := e1.next
    obtain ⟨b, hb⟩ : ∃ b, H.next + 1 = b := ⟨_, rfl⟩
    obtain ⟨m, hm⟩ : ∃ m, K.next = m := ⟨_, rfl⟩
    rw [hb] at d1
    rw [hm] at mx1 hmn
    simp [hb, hm]
    refine W_loop (fun (i : Nat) e X => e 0 = v ∧ e 3 = .ptr (some (b, 0)) ∧ e 4 = .map (some m) ∧ ∃ j : Nat, i + j = l.length ∧ e 5 = .int .i64 j ∧ ∃ tg S, Uno H tg X b S ∧ ∃ Q, Both ((j : Int) + 1) S Q ∧ phi Q ≤ 12 * j ∧ Dry Q ∧ Noted Q ∧ ∃ es, Mx tg X m es ∧ ∀ a, rget es a = tOf Q a) id l.length ?_ ?_
    · exact ⟨by simp, by simp, by simp, 0, by simp, by simp, _, _, d1, _, both_none, by decide, dry_none, noted_none, _, mx1, fun a => by rw [tOf_none]; rfl⟩
    · rintro i e X ⟨x0, x3, x4, j, hj, x5, tg, S, d, Q, hB, hp, hd, hN, es, mx, hr⟩
      simp [x0, x3, x4, x5, hl.len]
      refine WB.dec ?_ ?_
      · intro hjl
        have hs := hl.fr hw d.fr
        have ia := hs.ia (k := .i64) (i := j) (by omega) (by omega)
        have ld := hs.ldA (i := j) (by omega) (by omega) (cs := [.int .i64 (nth l j).o, .int .i64 (nth l j).x, .int .i64 (nth l j).y, .int .i64 (nth l j).z, .str (nth l j).s]) rfl
        simp [x0, x3, x4, x5, ia, ld]
        refine WC.of (c326t D.d326 d mx hB (by omega) (by omega) (by omega) hd) ?_
        rintro r Y ⟨tg1, S1, Q1, t, ac⟩
        have hp1 : phi Q1 ≤ 12 * (j + 1) := by have := ac.ph; omega
        have hB1 := ac.both
        have htl := ac.len
        simp [x0, x3, x4, x5]
        refine W_loop (fun (z : Nat) e X => e 0 = v ∧ e 3 = .ptr (some (b, 0)) ∧ e 4 = .map (some m) ∧ e 5 = .int .i64 j ∧ e 6 = r ∧ ∃ q : Nat, z + q = t.length ∧ e 7 = .int .i64 q ∧ Uno H tg1 X b S1 ∧ FreeX tg1 (fun g => g = m) X r t ∧ ∃ es, Mx tg1 X m es ∧ ∀ a, rget es a = (tOf Q a : Int) + (t.take q).count a) id t.length ?_ ?_
        · exact ⟨by simp [x0], by simp [x3], by simp [x4], by simp [x5], by simp, 0, by simp, by simp, ac.d, ac.fx, es, ac.mx, by simpa using hr⟩
        · rintro z e Z ⟨x0, x3, x4, x5, x6, q, hq, x7, d, fx, es, mx, hr⟩
          simp [x0, x3, x4, x5, x6, x7, fx.sl.len]
          refine WB.dec ?_ ?_
          · intro hlt
            have iaT := fx.sl.ia (k := .i64) (i := (q : Int)) (by omega) (by omega)
            have ldT := fx.sl.ld (i := (q : Int)) (by omega) (by omega)
            obtain ⟨a, ha⟩ : ∃ a, nth t (q : Int) = a := ⟨_, rfl⟩
            rw [ha] at ldT
            have hta := tOf_le Q a
            have hca := (t.take q).count_le_length (a := a)
            rw [List.length_take] at hca
            have hw1 : IntKind.i64.wrap ((tOf Q a : Int) + (t.take q).count a + 1) = (tOf Q a : Int) + (t.take q).count a + 1 := wrap64 (by omega) (by omega)
            obtain ⟨Z3, t1, t2, t3, t4⟩ := mx.set d.fr.wf a ((tOf Q a : Int) + (t.take q).count a + 1)
            have no := mx.no
            simp [x0, x3, x4, x5, x6, x7, iaT, ldT, encI, mx.look, hr, hw1, t1]
            refine ⟨z - 1, by omega, q + 1, by omega, by rw [wrap64 (by omega) (by omega)]; simp, d.step t2 hmn (t4.mono fun g hg => by subst hg; exact ⟨Nat.le_refl _, no⟩), fx.step d.fr.wf t4 (fun g hg => hg), _, t3, fun c => ?_⟩
            rw [rget_rset, count_take (by omega), ha]
            by_cases e : c = a
            · subst e; rw [if_pos rfl, if_pos rfl]; simp; omega
            · rw [if_neg e, if_neg (Ne.symm e), hr]; simp
          · intro hlt
            have hqt : q = t.length := by omega
            subst hqt
            rw [List.take_length] at hr
            simp [x0, x3, x4, x5]
            refine ⟨i - 1, by omega, j + 1, by omega, by rw [wrap64 (by omega) (by omega)]; simp, tg1, S1, d, Q1, by simpa using hB1, hp1, ac.dry, ac.told.noted hN, es, mx, fun a => ?_⟩
            rw [hr, ac.told.told]; simp
      · intro hjl
        simp [x3, x4]
        refine WC.of (p339 D.d339 d.fr.wf d.ok d.hp hB (by omega) (by omega)) ?_
        rintro r K1 ⟨S1, tg1, u1, h1, e1, f1⟩
        have d1 := d.up u1 h1
        have mx1 := mx.up d.fr.wf u1
        have hmlt := mx.mp.lt d.fr.wf
        obtain ⟨ts, tn⟩ := told_settle (n := 2 ^ 29) (by omega) (2 ^ 29) hB (by omega) (by omega) (by omega)
        have hd1 := settle_law (n := 2 ^ 29) (by omega) (2 ^ 29) hB (by omega) (by omega) (by omega) hd
        have fx1 : FreeX tg1 (fun g => g = m) K1 r _ := f1.x.mono fun g hg => by omega
        have htl := settleQ_len (m := 2 ^ 29) (n := 2 ^ 29) (Q := Q)
        have hB1 := e1.both
        obtain ⟨R, hR⟩ : ∃ R, settleQ (2 ^ 29) (2 ^ 29) Q = R := ⟨_, rfl⟩
        rw [hR] at ts tn hd1 fx1 htl hB1
        obtain ⟨Q1, t⟩ := R
        simp only at ts tn hd1 fx1 htl hB1
        have hN1 := ts.noted hN
        simp [x3, x4]
        refine W_loop (fun (z : Nat) e X => e 3 = .ptr (some (b, 0)) ∧ e 4 = .map (some m) ∧ e 8 = r ∧ ∃ q : Nat, z + q = t.length ∧ e 9 = .int .i64 q ∧ Uno H tg1 X b S1 ∧ FreeX tg1 (fun g => g = m) X r t ∧ ∃ es, Mx tg1 X m es ∧ ∀ a, rget es a = (tOf Q a : Int) + (t.take q).count a) id t.length ?_ ?_
        · exact ⟨by simp [x3], by simp [x4], by simp, 0, by simp, by simp, d1, fx1, es, mx1, by simpa using hr⟩
        · rintro z e Z ⟨x3, x4, x8, q, hq, x9, d, fx, es, mx, hr⟩
          simp [x3, x4, x8, x9, fx.sl.len]
          refine WB.dec ?_ ?_
          · intro hlt
            have iaT := fx.sl.ia (k := .i64) (i := (q : Int)) (by omega) (by omega)
            have ldT := fx.sl.ld (i := (q : Int)) (by omega) (by omega)
            obtain ⟨a, ha⟩ : ∃ a, nth t (q : Int) = a := ⟨_, rfl⟩
            rw [ha] at ldT
            have hta := tOf_le Q a
            have hca := (t.take q).count_le_length (a := a)
            rw [List.length_take] at hca
            have hw1 : IntKind.i64.wrap ((tOf Q a : Int) + (t.take q).count a + 1) = (tOf Q a : Int) + (t.take q).count a + 1 := wrap64 (by omega) (by omega)
            obtain ⟨Z3, t1, t2, t3, t4⟩ := mx.set d.fr.wf a ((tOf Q a : Int) + (t.take q).count a + 1)
            have no := mx.no
            simp [x3, x4, x8, x9, iaT, ldT, encI, mx.look, hr, hw1, t1]
            refine ⟨z - 1, by omega, q + 1, by omega, by rw [wrap64 (by omega) (by omega)]; simp, d.step t2 hmn (t4.mono fun g hg => by subst hg; exact ⟨Nat.le_refl _, no⟩), fx.step d.fr.wf t4 (fun g hg => hg), _, t3, fun c => ?_⟩
            rw [rget_rset, count_take (by omega), ha]
            by_cases e : c = a
            · subst e; rw [if_pos rfl, if_pos rfl]; simp; omega
            · rw [if_neg e, if_neg (Ne.symm e), hr]; simp
          · intro hlt
            have hqt : q = t.length := by omega
            subst hqt
            rw [List.take_length] at hr
            replace hr : ∀ a, rget es a = tOf Q1 a := fun a => by rw [hr, ts.told]; simp
            simp [x3, x4]
            refine W_loop (fun (z : Nat) e X => e 3 = .ptr (some (b, 0)) ∧ e 4 = .map (some m) ∧ ∃ q : Nat, z + q = 100 ∧ e 10 = .int .i64 q ∧ ∃ tg, Uno H tg X b S1 ∧ Mx tg X m es) id 100 ?_ ?_
            · exact ⟨by simp [x3], by simp [x4], 0, by simp, by simp, tg1, d, mx⟩
            · rintro z e Z ⟨x3, x4, q, hq, x10, tg2, d, mx⟩
              simp [x3, x4, x10]
              refine WB.dec ?_ ?_
              · intro hlt
                obtain ⟨s1, s2⟩ := state_count hB1 hN1 tn (q : Int)
                simp [x3, x4, x10]
                refine WC.of (p340 D.d340 d.fr.wf d.ok d.hp hB1) ?_
                rintro r1 Z1 ⟨rfl, tg3, u3, h3⟩
                have d3 := d.up u3 h3
                have mx3 := mx.up d.fr.wf u3
                simp [x3, x4, x10]
                refine WC.of (p341 D.d341 d3.fr.wf d3.ok d3.hp hB1) ?_
                rintro r2 Z2 ⟨rfl, tg4, u4, h4⟩
                have d4 := d3.up u4 h4
                have mx4 := mx3.up d3.fr.wf u4
                obtain ⟨st, hst⟩ : ∃ st, stateR Q1.hp (q : Int) = st := ⟨_, rfl⟩
                obtain ⟨cn, hcn⟩ : ∃ cn, countQ Q1 (q : Int) = cn := ⟨_, rfl⟩
                rw [hst, hcn] at s1 s2
                rw [hst, hcn]
                have ht1 := tOf_le Q1 (q : Int)
                have hng : ¬ (1 < (tOf Q1 (q : Int) : Int)) := by omega
                have fin : ∃ j, j < z ∧ ∃ q', j + q' = 100 ∧ IntKind.i64.wrap ((q : Int) + 1) = (q' : Int) ∧ ∃ tg, Uno H tg Z2 b S1 ∧ Mx tg Z2 m es :=
                  ⟨z - 1, by omega, q + 1, by omega, by rw [wrap64 (by omega) (by omega)]; simp, tg4, d4, mx4⟩
                by_cases c1 : cn.2 = 0
                · by_cases c2 : st.1 = 2
                  · simp [x3, x4, x10, s1, mx4.look, hr, hng, c1, c2]
                    exact fin
                  · have c3 := s2 (by rw [s1]; exact c1) c2
                    have c3' : ¬ cn.1 ≤ 0 := by omega
                    simp [x3, x4, x10, s1, mx4.look, hr, hng, c1, c2, c3']
                    exact fin
                · simp [x3, x4, x10, s1, mx4.look, hr, hng, c1]
                  exact fin
              · intro hlt
                simp [x3]
                refine WC.of (c342 D.d342 d hB1 hd1 hN1 tn) ?_
                rintro r2 Z2 ⟨rfl, tg4, d4⟩
                simp
                refine WC.of (c319 D.d319 d4.fr.wf) ?_
                rintro r Z' rfl
                simp
theorem law317 (D : D317 T) {K : AHeap} {as : List AV} (hw : WF K) (hg : Goods K [.slice shA] as) : Calls T 317 as K fun v _ => v = .bool true := by
  obtain ⟨a, r, rfl, g1, rfl⟩ := hg
  obtain ⟨l, hl⟩ := g1.acts
  exact c317 D hw hl
end Go.Am
