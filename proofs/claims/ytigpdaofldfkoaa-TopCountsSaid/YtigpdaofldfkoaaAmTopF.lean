/- The law TopCounts. -/
import Derived.Test.YtigpdaofldfkoaaAmKept
import Derived.Test.YtigpdaofldfkoaaAmHeapS
set_option linter.unusedVariables false
set_option linter.unusedSimpArgs false
namespace Go.Am
variable {T : Tab}
def kh1 : Rp := (makeQ Rp.none 1 true).1
def kh2 : Rp := (rootQ kh1 0).1
def kh3 : Rp := (dropQ kh2 0).1
theorem c535 (D : D535 T) {H : AHeap} (hw : WF H) : Calls T 535 [] H fun r K => r = .bool true := by
  refine Calls.fn D.pr D.fn ?_
  simp [ir535]
  refine WC.of (c320 (tg := fun _ => none) D.d320 0 hw (fun _ _ => rfl)) ?_
  rintro r K1 ⟨rfl, tg1, u1, h1⟩
  simp
  refine WC.of (p343 D.d343 u1.wf u1.ok h1 (A := 1) both_none (by decide) (by decide) (by decide)) ?_
  rintro r K2 ⟨rfl, S2, ⟨tg2, u2, h2⟩, d2⟩
  rw [show (makeQ Rp.none 1 true).2 = (0, 0) by decide]
  rw [show (makeQ Rp.none 1 true).1 = kh1 from rfl] at d2
  simp
  refine WC.of (p324 D.d324 u2.wf u2.ok h2 d2.both (by decide) (by decide)) ?_
  rintro r K3 ⟨rfl, S3, ⟨tg3, u3, h3⟩, d3⟩
  rw [show (rootQ kh1 0).2 = 0 by decide +kernel]
  rw [show (rootQ kh1 0).1 = kh2 from rfl] at d3
  simp
  refine WC.of (p341 D.d341 u3.wf u3.ok h3 d3.both) ?_
  rintro r K4 ⟨rfl, ⟨tg4, u4, h4⟩⟩
  rw [show countQ kh2 0 = (1, 0) by decide +kernel]
  simp
  refine WC.of (p325 D.d325 u4.wf u4.ok h4 d3.both (by decide) (by decide)) ?_
  rintro r K5 ⟨rfl, S5, ⟨tg5, u5, h5⟩, d5⟩
  rw [show (dropQ kh2 0).2 = 0 by decide +kernel]
  rw [show (dropQ kh2 0).1 = kh3 from rfl] at d5
  simp
  refine WC.of (p339 D.d339 u5.wf u5.ok h5 d5.both (by decide) (by decide)) ?_
  rintro r K6 ⟨S6, tg6, u6, h6, d6, f6⟩
  rw [show (settleQ (2 ^ 29) (2 ^ 29) kh3).2 = [0] by decide +kernel] at f6
  have len := f6.sl.len
  have ia := f6.sl.ia (k := .i64) (i := 0) (by omega) (by simp)
  have ld := f6.sl.ld (i := 0) (by omega) (by simp)
  have n0 : nth [(0 : Int)] 0 = 0 := rfl
  rw [n0] at ld
  simp at len
  simp [len, ia, ld, encI]
theorem new_count {A : Int} {S : Hp} {Q : Rp} (hB : Both A S Q) (w : Bool) (hc : Q.cells.length ≠ 100) : countQ (makeQ Q 1 w).1 (Q.cells.length : Int) = (0, 0) ∧ (rootQ (makeQ Q 1 w).1 (Q.cells.length : Int)).2 = 0 := by
  have e : (makeQ Q 1 w).1 = { Q with cells := Q.cells ++ [⟨List.replicate 1 ⟨false, false, 0⟩, w, false, false, 0⟩], notes := Q.notes ++ [(Q.cells.length : Int)] } := by
    have hc' : ¬ Q.hp.cells.length = 100 := hc
    unfold makeQ makeR
    rw [if_neg (by omega), if_neg hc']; rfl
  obtain ⟨Q1, hQ1⟩ : ∃ Q1, (makeQ Q 1 w).1 = Q1 := ⟨_, rfl⟩
  have hcs : Q1.cells = Q.cells ++ [⟨List.replicate 1 ⟨false, false, 0⟩, w, false, false, 0⟩] := by rw [← hQ1, e]
  have hlen : Q1.cells.length = Q.cells.length + 1 := by rw [hcs]; simp
  have hlast : nth Q1.cells (Q.cells.length : Int) = ⟨List.replicate 1 ⟨false, false, 0⟩, w, false, false, 0⟩ := by rw [hcs, nth_append_last rfl]
  have hz : ∀ live, hasR Q1.hp (Q.cells.length : Int) live = 0 := by
    intro live
    unfold hasR
    rw [if_neg (by simp only [Rp.hp_cells]; omega), if_neg (by simp only [Rp.hp_cells]; rw [hlast]; simp)]
  have hrefs : refs Q1.cells (Q.cells.length : Int) = 0 := by
    have hz : refs Q.cells (Q.cells.length : Int) = 0 := by
      apply Classical.byContradiction
      intro hp
      obtain ⟨j, j0, j1, hj⟩ := refs_from (cs := Q.cells) (i := (Q.cells.length : Int)) (by omega)
      unfold strongs at hj
      obtain ⟨x, hx, hxt⟩ := List.mem_map.1 hj
      obtain ⟨y1, y2⟩ := List.mem_filter.1 hx
      simp at y2
      have := hB.good.to _ (nth_mem j0 j1) x y1 y2.1
      omega
    rw [hcs]
    have : refs (Q.cells ++ [⟨List.replicate 1 ⟨false, false, 0⟩, w, false, false, 0⟩]) (Q.cells.length : Int) = refs Q.cells (Q.cells.length : Int) + cnt (List.replicate 1 ⟨false, false, 0⟩) (Q.cells.length : Int) := by simp [refs]
    rw [this, hz]
    simp [cnt, strongTo]
  rw [hQ1]
  refine ⟨?_, ?_⟩
  · unfold countQ
    rw [if_neg (by simp [hz])]
    unfold countedR
    rw [hlast, hrefs]
    simp
  · unfold rootQ
    rw [if_neg (by simp [hz])]
theorem state_countT {Q : Rp} {A : Int} {S : Hp} (hB : Both A S Q) (hN : Noted Q) (hn : Q.notes = []) {i : Int} (i0 : 0 ≤ i) (i1 : i < Q.cells.length) :
    (stateR Q.hp i).2 = 0 ∧ (countQ Q i).2 = 0 ∧ ((stateR Q.hp i).1 ≠ 2 → (countQ Q i).1 ≠ 0) := by
  have hz : hasR Q.hp i false = 0 := by
    unfold hasR
    rw [if_neg (by simp only [Rp.hp_cells]; omega), if_neg (by simp)]
  have hz' : ¬ hasR Q.hp i false ≠ 0 := by simp [hz]
  unfold stateR countQ
  rw [if_neg hz', if_neg hz']
  by_cases he : (nth Q.hp.cells i).e = true
  · rw [if_pos he]; exact ⟨rfl, rfl, fun h => absurd rfl h⟩
  · rw [if_neg he]
    replace he : (nth Q.cells i).e = false := by simpa using he
    refine ⟨by split <;> rfl, rfl, fun _ => ?_⟩
    rw [hB.good.counted i0 i1]
    intro hc
    have := hN i i0 i1 he hc
    rw [hn] at this
    cases this
theorem c531 (D : D531 T) {H : AHeap} (hw : WF H) {v : AV} {l : List Act} (hl : Sl encAct 5 H v l) : Calls T 531 [v] H fun r K => r = .bool true := by
  refine Calls.fn D.pr D.fn ?_
  simp [ir531]
  refine WC.of (c320 (tg := fun _ => none) D.d320 0 hw (fun _ _ => rfl)) ?_
  rintro r K ⟨rfl, tg1, u1, h1⟩
  obtain ⟨e1, e2⟩ := upNew (H0 := H) (Fr.refl hw) (fun g j t ht => by cases ht) u1
  obtain ⟨b, hb⟩ : ∃ b, H.next + 1 = b := ⟨_, rfl⟩
  rw [hb] at h1
  -- the box
  have wK := u1.wf
  have bx := Box.new (H := K) (cs := [.ptr (some (b, 0)), .slc none 0 0 none, .slc none 0 0 none, .slc none 0 0 none])
  have f0 := wK.fr_new (cs := [.ptr (some (b, 0)), .slc none 0 0 none, .slc none 0 0 none, .slc none 0 0 none])
  obtain ⟨K1, hK1⟩ : ∃ X, K.new [.ptr (some (b, 0)), .slc none 0 0 none, .slc none 0 0 none, .slc none 0 0 none] = X := ⟨_, rfl⟩
  have nK1 : K1.next = K.next + 1 := by rw [← hK1]; rfl
  rw [hK1] at bx f0
  obtain ⟨kb, hkb⟩ : ∃ x, K.next = x := ⟨_, rfl⟩
  rw [hkb] at bx
  have u9 : Up 9 tg1 (upd tg1 kb (some (9, .str))) K K1 := (Up.fr wK u1.ok f0).putN (by omega) (by omega)
  obtain ⟨tg2, ht2⟩ : ∃ t, upd tg1 kb (some (9, .str)) = t := ⟨_, rfl⟩
  have tkb : tg2 kb = some (9, .str) := by rw [← ht2]; exact upd_same _ _ _
  rw [ht2] at u9
  have d0 : Uno H tg1 K b Hp.none := ⟨e1, u1.ok, e2, h1⟩
  have c0 : Kc H tg2 K1 b kb Hp.none Rp.none := ⟨d0.other (by decide) u9, kb, .slc none 0 0 none, .slc none 0 0 none, .slc none 0 0 none, none, none, none, bx, tkb, Own.nil (by simp), by simp, Own.nil (by simp), by simp, Own.nil (by simp), by simp⟩
  have hbld : psem (.bld [.ptr none, .slc none 0 0 none, .slc none 0 0 none, .slc none 0 0 none] [(0, 1)]) [.ptr (some (b, 0))] = some (.agg [.ptr (some (b, 0)), .slc none 0 0 none, .slc none 0 0 none, .slc none 0 0 none]) := by simp [psem_bld', fill, AV.cells, AV.cell, splice]
  simp [hb, hbld, AV.cells, AV.cell, hK1, hkb]
  refine W_loop (fun (z : Nat) e X => e 0 = v ∧ e 3 = .ptr (some (b, 0)) ∧ e 4 = .ptr (some (kb, 0)) ∧ ∃ j : Nat, z + j = 80 ∧ e 5 = .int .i64 j ∧ ∃ tg S Q, Kc H tg X b kb S Q ∧ Both ((j : Int) + 1) S Q ∧ phi Q ≤ 12 * j ∧ Dry Q ∧ Noted Q) id 80 ?_ ?_
  · exact ⟨by simp, by simp, by simp, 0, by simp, by simp, tg2, _, _, c0, both_none, by decide, dry_none, noted_none⟩
  · rintro z e X ⟨x0, x3, x4, j, hj, x5, tg, S, Q, c, hB, hp, hd, hN⟩
    by_cases hgo : j < l.length ∧ j < 80
    · have g1 : (j : Int) < l.length := by omega
      have g2 : (j : Int) < 80 := by omega
      have hs := hl.fr hw c.d.fr
      have ia := hs.ia (k := .i64) (i := j) (by omega) (by omega)
      have ld := hs.ldA (i := j) (by omega) (by omega) (cs := [.int .i64 (nth l j).o, .int .i64 (nth l j).x, .int .i64 (nth l j).y, .int .i64 (nth l j).z, .str (nth l j).s]) rfl
      simp [x0, x3, x4, x5, hl.len, hgo.1, hgo.2, g1, g2, ia, ld]
      refine WC.of (c532 D.d532 c hB (by omega) (by omega) (by omega) hd) ?_
      rintro r Y ⟨rfl, tg1, S1, Q1, c1, hB1, hp1, hd1, hN1, _⟩
      simp [x0, x3, x4, x5]
      refine WC.of (c533 D.d533 c1 hB1 (by omega) hd1) ?_
      rintro r Z ⟨rfl, tg2, c2⟩
      simp [x0, x3, x4, x5]
      exact ⟨z - 1, by omega, j + 1, by omega, by rw [wrap64 (by omega) (by omega)]; simp, tg2, S1, Q1, c2, by simpa using hB1, by omega, hd1, hN1 hN⟩
    · have hj80 : j ≤ 80 := by omega
      have hbld2 : psem (.bld [.int .i64 0, .int .i64 0, .int .i64 0, .int .i64 0, .str []] [(0, 1)]) [.int .i64 6] = some (.agg [.int .i64 6, .int .i64 0, .int .i64 0, .int .i64 0, .str []]) := by simp [psem_bld', fill, AV.cells, AV.cell, splice]
      have walk : (decide (j < l.length) && decide (j < 80)) = false := by simpa using hgo
      have step1 : Calls T 532 [.ptr (some (kb, 0)), .agg [.int .i64 6, .int .i64 0, .int .i64 0, .int .i64 0, .str []]] X fun r K => Kept ((j : Int) + 1) H b kb Q 6 r K := c532 D.d532 c hB (by omega) (by omega) (by omega) hd
      have rest : ∀ (Q1 : Rp) (S1 : Hp) tgY (Y : AHeap), Kc H tgY Y b kb S1 Q1 → Both ((j : Int) + 1 + 1) S1 Q1 → phi Q1 ≤ 12 * (j + 1) → Dry Q1 → Noted Q1 → Q1.notes = [] → True := fun _ _ _ _ _ _ _ _ _ _ => trivial
      by_cases hjl : j < l.length
      · have g1 : (j : Int) < l.length := by omega
        have g2 : ¬(j : Int) < 80 := by omega
        have g2' : ¬j < 80 := by omega
        simp [x0, x3, x4, x5, hl.len, hjl, g1, g2, g2', hbld2]
        refine WC.of step1 ?_
        rintro r Y ⟨rfl, tgY, S1, Q1, c1, hB1, hp1, hd1, hN1, hn1⟩
        replace hp1 : phi Q1 ≤ 12 * (j + 1) := by omega
        simp [x0, x3, x4, x5]
        refine WC.of (c533 D.d533 c1 hB1 (by omega) hd1) ?_
        rintro r Z ⟨rfl, tgZ, c2⟩
        replace hN1 := hN1 hN
        replace hn1 := hn1 rfl
        have g := graph hB1 hd1
        obtain ⟨gg1, gg2, gg3, gg4⟩ := both_graph hB1 g
        obtain ⟨n, hn⟩ : ∃ n, Q1.cells.length = n := ⟨_, rfl⟩
        have hl100 := g.shp.len
        rw [hn] at hl100
        have hSQ := hB1.sim.len
        obtain ⟨fk, fv, rv, tv, f1, f2, f3, kj⟩ := c2.kr
        have lfl : (lfQ Q1).length = n := by simp [lfQ, hn]
        have len := kj.o1.1.len
        rw [lfl] at len
        have w0 := c2.d.fr.wf
        -- lost
        have hmk := wsem0_mks (bytes := 1) (n := n) (zero := [AV.bool false]) (k := .i64) (l := .i64) (H := Z) (by omega) (by simp) rfl (by omega)
        have ow := w0.own_new (enc := encB) (sz := 1) (l := List.replicate n false) (cs := (List.replicate n [AV.bool false]).flatten) (cap := some n) (by intro x _; rfl) (by simp) (by simp) (by
          rw [flat_bools]
          rw [List.take_of_length_le]
          rw [flat_len (sz := 1) (by intro x _; rfl)]
          simp)
        simp only [List.length_replicate] at ow
        have fr1 := w0.fr_new (cs := (List.replicate n [AV.bool false]).flatten)
        obtain ⟨X1, hX1⟩ : ∃ X, Z.new (List.replicate n [AV.bool false]).flatten = X := ⟨_, rfl⟩
        have nX1 : X1.next = Z.next + 1 := by rw [← hX1]; rfl
        rw [hX1] at hmk ow fr1
        simp only [List.length_cons, List.length_nil, Nat.zero_add] at hmk
        obtain ⟨lv, hlv⟩ : ∃ v, AV.slc (some (Z.next, 0)) 1 n (some n) = v := ⟨_, rfl⟩
        rw [hlv] at ow hmk
        obtain ⟨fd, hfd⟩ : ∃ x, Z.next = x := ⟨_, rfl⟩
        rw [hfd] at ow
        have hno : tgZ fd = none := c2.d.ok fd (by omega)
        have hge : H.next ≤ fd := by have := c2.d.fr.next; omega
        have c3 := c2.free fr1
        simp [x0, x3, x4, x5, kj.ld1, len, hmk]
        refine WC.of (c334 D.d334 c3.d.fr.wf c3.d.ok c3.d.hp gg1 gg2 gg3 gg4) ?_
        rintro av K3 ⟨tg3, u3, h3, bs, ls, led, lost, fl⟩
        have c4 := c3.up u3 h3
        have hno3 : tg3 fd = none := by
          have hnt : ¬tgZ.own 0 fd := by rintro ⟨t, ht⟩; rw [hno] at ht; cases ht
          rcases u3.tag fd with e | ⟨e, _⟩
          · rw [e]; exact hno
          · rcases e with e | e
            · exact absurd e hnt
            · omega
        have ow3 := ow.keeps fr1.wf u3.keeps fun g hg => by
          have hg := Option.some.inj hg
          subst hg
          rintro ⟨t, ht⟩; rw [hno] at ht; cases ht
        have hpred := lost_pred hB1 hd1 hN1 hn1 led lost
        have hLl := numsTo_len ls ls.length
        have hlsn : ls.length = n := by rw [lost.1, led.1]; omega
        have hLin : ∀ i ∈ numsTo ls ls.length, 0 ≤ i ∧ i < n := fun i hi => by
          obtain ⟨a, b, _⟩ := mem_numsTo.1 hi
          exact ⟨a, by omega⟩
        have fx : FreeX tg3 (fun g => g = fd) K3 av (numsTo ls ls.length) := fl.x.mono fun g hg => by omega
        obtain ⟨L, hL⟩ : ∃ L, numsTo ls ls.length = L := ⟨_, rfl⟩
        rw [hL] at fx hpred hLl hLin
        have hLn : L.length ≤ n := by omega
        simp [x3, x4]
        refine W_loop (fun (z : Nat) e X => e 3 = .ptr (some (b, 0)) ∧ e 4 = .ptr (some (kb, 0)) ∧ e 6 = lv ∧ e 7 = av ∧ ∃ q : Nat, z + q = L.length ∧ e 8 = .int .i64 q ∧ Kc H tg3 X b kb S1 Q1 ∧ FreeX tg3 (fun g => g = fd) X av L ∧ ∃ lb, Own encB 1 X lv lb (some fd) ∧ lb.length = n ∧ ∀ i : Int, 0 ≤ i → i < n → (nth lb i = true ↔ i ∈ L.take q)) id L.length ?_ ?_
        · refine ⟨by simp [x3], by simp [x4], by simp, by simp, 0, by simp, by simp, c4, fx, _, ow3, by simp, fun i i0 i1 => ?_⟩
          have hi : i.toNat < n := by omega
          simp [nth, List.getElem?_replicate, hi]
        · rintro z2 e X2 ⟨x3, x4, x6, x7, q, hq, x8, c, fx, lb, ol, hlb, hm⟩
          simp [x3, x4, x6, x7, x8, fx.sl.len]
          refine WB.dec ?_ ?_
          · intro hlt
            have iaT := fx.sl.ia (k := .i64) (i := (q : Int)) (by omega) (by omega)
            have ldT := fx.sl.ld (i := (q : Int)) (by omega) (by omega)
            obtain ⟨a, ha⟩ : ∃ a, nth L (q : Int) = a := ⟨_, rfl⟩
            rw [ha] at ldT
            obtain ⟨a0, a1⟩ := hLin a (by rw [← ha]; exact nth_mem (by omega) (by omega))
            have blen := ol.1.len
            rw [hlb] at blen
            have hz1 : ¬a < 0 := by omega
            have hz2 : ¬(n : Int) ≤ a := by omega
            have ia2 := ol.1.ia (k := .i64) a0 (by rw [hlb]; exact a1)
            obtain ⟨Y2, s1, s2, s3, s4, s5⟩ := ol.stB c.d.fr.wf a0 (by rw [hlb]; exact a1) true
            simp only [encB] at s1
            have k2 : Keeps (fun g => g = fd) X2 Y2 := s3.mono fun g hg => (Option.some.inj hg).symm
            have tm := take_memT (L := L) (j := q) (by omega)
            rw [ha] at tm
            simp [x3, x4, x6, x7, x8, iaT, ldT, encI, hz1, blen, hz2, ia2, s1]
            refine ⟨z2 - 1, by omega, q + 1, by omega, by rw [wrap64 (by omega) (by omega)]; simp, c.step s2 hge (k2.mono fun g hg => by subst hg; exact ⟨Nat.le_refl _, hno3⟩), fx.step c.d.fr.wf k2 (fun g hg => hg), _, s4, by simp [hlb], fun i i0 i1 => ?_⟩
            rw [nth_set a0 (by rw [hlb]; exact a1) i0, tm]
            by_cases hi : a = i
            · subst hi; simp
            · rw [if_neg hi, hm i i0 i1]
              simp [Ne.symm hi]
          · intro hlt
            have hqL : q = L.length := by omega
            rw [hqL, List.take_length] at hm
            have lo : FreeB tg3 (fun _ => False) X2 lv lb := ⟨some fd, ol, fun g hg => by have hg := Option.some.inj hg; subst hg; exact ⟨id, hno3⟩⟩
            simp [x3, x4, x6]
            refine WC.of (c534 D.d534 c hB1 hd1 lo (by rw [hlb, hn]) (L := L) (by rw [hn]; exact hm) (by rw [hn]; exact hLin) (by rw [hn]; exact hLn) hpred) ?_
            rintro ov K4 ⟨tg4, on, c5, lo5, fo5, hol, hon⟩
            rw [hn] at hol
            simp [x3, x4, x6]
            refine W_loop (fun (z : Nat) e X => e 3 = .ptr (some (b, 0)) ∧ e 6 = lv ∧ e 9 = ov ∧ ∃ q : Nat, z + q = n ∧ e 10 = .int .i64 q ∧ ∃ tg, Kc H tg X b kb S1 Q1 ∧ FreeB tg (fun _ => False) X lv lb ∧ FreeB tg (fun _ => False) X ov on) id n ?_ ?_
            · exact ⟨by simp [x3], by simp [x6], by simp, 0, by simp, by simp, tg4, c5, lo5, fo5⟩
            · rintro z3 e X3 ⟨x3, x6, x9, q, hq, x10, tg5, c, lo, fo⟩
              have blen := lo.sl.len
              rw [hlb] at blen
              simp [x3, x6, x9, x10, blen]
              refine WB.dec ?_ ?_
              · intro hlt
                have qQ : (q : Int) < Q1.cells.length := by omega
                obtain ⟨s1, s2, s3⟩ := state_countT hB1 hN1 hn1 (i := (q : Int)) (by omega) qQ
                simp [x3, x6, x9, x10]
                refine WC.of (p341 D.d341 c.d.fr.wf c.d.ok c.d.hp hB1) ?_
                rintro r1 Z1 ⟨rfl, tg6, u6, h6⟩
                have lo := lo.up c.d.fr.wf u6
                have fo := fo.up c.d.fr.wf u6
                replace c := c.up u6 h6
                simp [x3, x6, x9, x10]
                refine WC.of (p340 D.d340 c.d.fr.wf c.d.ok c.d.hp hB1) ?_
                rintro r2 Z2 ⟨rfl, tg7, u7, h7⟩
                have lo := lo.up c.d.fr.wf u7
                have fo := fo.up c.d.fr.wf u7
                replace c := c.up u7 h7
                obtain ⟨st, hst⟩ : ∃ st, stateR Q1.hp (q : Int) = st := ⟨_, rfl⟩
                obtain ⟨cn, hcn⟩ : ∃ cn, countQ Q1 (q : Int) = cn := ⟨_, rfl⟩
                rw [hst] at s1 s3
                rw [hcn] at s2 s3
                rw [hst, hcn]
                have ia1 := lo.sl.ia (k := .i64) (i := (q : Int)) (by omega) (by omega)
                have ld1 := lo.sl.ld (i := (q : Int)) (by omega) (by omega)
                have ia2 := fo.sl.ia (k := .i64) (i := (q : Int)) (by omega) (by omega)
                have ld2 := fo.sl.ld (i := (q : Int)) (by omega) (by omega)
                have fin : ∃ j, j < z3 ∧ ∃ q', j + q' = n ∧ IntKind.i64.wrap ((q : Int) + 1) = (q' : Int) ∧ ∃ tg, Kc H tg Z2 b kb S1 Q1 ∧ FreeB tg (fun _ => False) Z2 lv lb ∧ FreeB tg (fun _ => False) Z2 ov on :=
                  ⟨z3 - 1, by omega, q + 1, by omega, by rw [wrap64 (by omega) (by omega)]; simp, tg7, c, lo, fo⟩
                cases hb1 : nth lb (q : Int) with
                | false =>
                  rw [hb1] at ld1
                  by_cases c2 : st.1 = 2
                  · simp [x3, x6, x9, x10, s1, s2, c2, ia1, ld1, encB]
                    exact fin
                  · simp [x3, x6, x9, x10, s1, s2, c2, s3 c2, ia1, ld1, encB]
                    exact fin
                | true =>
                  rw [hb1] at ld1
                  have hqL := (hm q (by omega) (by omega)).1 hb1
                  rw [hon _ hqL] at ld2
                  by_cases c2 : st.1 = 2
                  · simp [x3, x6, x9, x10, s1, s2, c2, ia1, ld1, ia2, ld2, encB]
                    exact fin
                  · simp [x3, x6, x9, x10, s1, s2, c2, s3 c2, ia1, ld1, ia2, ld2, encB]
                    exact fin
              · intro hlt
                simp [x3]
                refine WC.of (p343 D.d343 c.d.fr.wf c.d.ok c.d.hp hB1 (by omega) (by omega) (by omega)) ?_
                rintro r1 Z1 ⟨rfl, S2, ⟨tg6, u6, h6⟩, e6⟩
                have d6 := c.d.up u6 h6
                by_cases hc : Q1.cells.length = 100
                · have hfull := make_full (Q := Q1) (n := 1) true (by omega) (by omega) hc
                  rw [hfull] at e6 ⊢
                  simp [x3]
                  refine WC.of (p341 D.d341 d6.fr.wf d6.ok d6.hp e6.both) ?_
                  rintro r1 Z2 ⟨rfl, tg7, u7, h7⟩
                  have d7 := d6.up u7 h7
                  simp [x3]
                  refine WC.of (c535 D.d535 d7.fr.wf) ?_
                  rintro r Z' rfl
                  simp
                · obtain ⟨m1, m2, m3, m4⟩ := make_lists (Q := Q1) (n := 1) true (by omega) (by omega) hc
                  obtain ⟨nc1, nc2⟩ := new_count hB1 true hc
                  rw [m1]
                  simp [x3]
                  refine WC.of (p341 D.d341 d6.fr.wf d6.ok d6.hp e6.both) ?_
                  rintro r1 Z2 ⟨rfl, tg7, u7, h7⟩
                  have d7 := d6.up u7 h7
                  rw [nc1]
                  have hp6 := e6.ph
                  simp [x3]
                  refine WC.of (p324 D.d324 d7.fr.wf d7.ok d7.hp e6.both (by omega) (by omega)) ?_
                  rintro r1 Z3 ⟨rfl, S3, ⟨tg8, u8, h8⟩, e8⟩
                  have d8 := d7.up u8 h8
                  rw [nc2]
                  simp [x3]
                  refine WC.of (c535 D.d535 d8.fr.wf) ?_
                  rintro r Z' rfl
                  simp
      · have g1 : ¬(j : Int) < l.length := by omega
        simp [x0, x3, x4, x5, hl.len, hjl, g1, hbld2]
        refine WC.of step1 ?_
        rintro r Y ⟨rfl, tgY, S1, Q1, c1, hB1, hp1, hd1, hN1, hn1⟩
        replace hp1 : phi Q1 ≤ 12 * (j + 1) := by omega
        simp [x0, x3, x4, x5]
        refine WC.of (c533 D.d533 c1 hB1 (by omega) hd1) ?_
        rintro r Z ⟨rfl, tgZ, c2⟩
        replace hN1 := hN1 hN
        replace hn1 := hn1 rfl
        have g := graph hB1 hd1
        obtain ⟨gg1, gg2, gg3, gg4⟩ := both_graph hB1 g
        obtain ⟨n, hn⟩ : ∃ n, Q1.cells.length = n := ⟨_, rfl⟩
        have hl100 := g.shp.len
        rw [hn] at hl100
        have hSQ := hB1.sim.len
        obtain ⟨fk, fv, rv, tv, f1, f2, f3, kj⟩ := c2.kr
        have lfl : (lfQ Q1).length = n := by simp [lfQ, hn]
        have len := kj.o1.1.len
        rw [lfl] at len
        have w0 := c2.d.fr.wf
        -- lost
        have hmk := wsem0_mks (bytes := 1) (n := n) (zero := [AV.bool false]) (k := .i64) (l := .i64) (H := Z) (by omega) (by simp) rfl (by omega)
        have ow := w0.own_new (enc := encB) (sz := 1) (l := List.replicate n false) (cs := (List.replicate n [AV.bool false]).flatten) (cap := some n) (by intro x _; rfl) (by simp) (by simp) (by
          rw [flat_bools]
          rw [List.take_of_length_le]
          rw [flat_len (sz := 1) (by intro x _; rfl)]
          simp)
        simp only [List.length_replicate] at ow
        have fr1 := w0.fr_new (cs := (List.replicate n [AV.bool false]).flatten)
        obtain ⟨X1, hX1⟩ : ∃ X, Z.new (List.replicate n [AV.bool false]).flatten = X := ⟨_, rfl⟩
        have nX1 : X1.next = Z.next + 1 := by rw [← hX1]; rfl
        rw [hX1] at hmk ow fr1
        simp only [List.length_cons, List.length_nil, Nat.zero_add] at hmk
        obtain ⟨lv, hlv⟩ : ∃ v, AV.slc (some (Z.next, 0)) 1 n (some n) = v := ⟨_, rfl⟩
        rw [hlv] at ow hmk
        obtain ⟨fd, hfd⟩ : ∃ x, Z.next = x := ⟨_, rfl⟩
        rw [hfd] at ow
        have hno : tgZ fd = none := c2.d.ok fd (by omega)
        have hge : H.next ≤ fd := by have := c2.d.fr.next; omega
        have c3 := c2.free fr1
        simp [x0, x3, x4, x5, kj.ld1, len, hmk]
        refine WC.of (c334 D.d334 c3.d.fr.wf c3.d.ok c3.d.hp gg1 gg2 gg3 gg4) ?_
        rintro av K3 ⟨tg3, u3, h3, bs, ls, led, lost, fl⟩
        have c4 := c3.up u3 h3
        have hno3 : tg3 fd = none := by
          have hnt : ¬tgZ.own 0 fd := by rintro ⟨t, ht⟩; rw [hno] at ht; cases ht
          rcases u3.tag fd with e | ⟨e, _⟩
          · rw [e]; exact hno
          · rcases e with e | e
            · exact absurd e hnt
            · omega
        have ow3 := ow.keeps fr1.wf u3.keeps fun g hg => by
          have hg := Option.some.inj hg
          subst hg
          rintro ⟨t, ht⟩; rw [hno] at ht; cases ht
        have hpred := lost_pred hB1 hd1 hN1 hn1 led lost
        have hLl := numsTo_len ls ls.length
        have hlsn : ls.length = n := by rw [lost.1, led.1]; omega
        have hLin : ∀ i ∈ numsTo ls ls.length, 0 ≤ i ∧ i < n := fun i hi => by
          obtain ⟨a, b, _⟩ := mem_numsTo.1 hi
          exact ⟨a, by omega⟩
        have fx : FreeX tg3 (fun g => g = fd) K3 av (numsTo ls ls.length) := fl.x.mono fun g hg => by omega
        obtain ⟨L, hL⟩ : ∃ L, numsTo ls ls.length = L := ⟨_, rfl⟩
        rw [hL] at fx hpred hLl hLin
        have hLn : L.length ≤ n := by omega
        simp [x3, x4]
        refine W_loop (fun (z : Nat) e X => e 3 = .ptr (some (b, 0)) ∧ e 4 = .ptr (some (kb, 0)) ∧ e 6 = lv ∧ e 7 = av ∧ ∃ q : Nat, z + q = L.length ∧ e 8 = .int .i64 q ∧ Kc H tg3 X b kb S1 Q1 ∧ FreeX tg3 (fun g => g = fd) X av L ∧ ∃ lb, Own encB 1 X lv lb (some fd) ∧ lb.length = n ∧ ∀ i : Int, 0 ≤ i → i < n → (nth lb i = true ↔ i ∈ L.take q)) id L.length ?_ ?_
        · refine ⟨by simp [x3], by simp [x4], by simp, by simp, 0, by simp, by simp, c4, fx, _, ow3, by simp, fun i i0 i1 => ?_⟩
          have hi : i.toNat < n := by omega
          simp [nth, List.getElem?_replicate, hi]
        · rintro z2 e X2 ⟨x3, x4, x6, x7, q, hq, x8, c, fx, lb, ol, hlb, hm⟩
          simp [x3, x4, x6, x7, x8, fx.sl.len]
          refine WB.dec ?_ ?_
          · intro hlt
            have iaT := fx.sl.ia (k := .i64) (i := (q : Int)) (by omega) (by omega)
            have ldT := fx.sl.ld (i := (q : Int)) (by omega) (by omega)
            obtain ⟨a, ha⟩ : ∃ a, nth L (q : Int) = a := ⟨_, rfl⟩
            rw [ha] at ldT
            obtain ⟨a0, a1⟩ := hLin a (by rw [← ha]; exact nth_mem (by omega) (by omega))
            have blen := ol.1.len
            rw [hlb] at blen
            have hz1 : ¬a < 0 := by omega
            have hz2 : ¬(n : Int) ≤ a := by omega
            have ia2 := ol.1.ia (k := .i64) a0 (by rw [hlb]; exact a1)
            obtain ⟨Y2, s1, s2, s3, s4, s5⟩ := ol.stB c.d.fr.wf a0 (by rw [hlb]; exact a1) true
            simp only [encB] at s1
            have k2 : Keeps (fun g => g = fd) X2 Y2 := s3.mono fun g hg => (Option.some.inj hg).symm
            have tm := take_memT (L := L) (j := q) (by omega)
            rw [ha] at tm
            simp [x3, x4, x6, x7, x8, iaT, ldT, encI, hz1, blen, hz2, ia2, s1]
            refine ⟨z2 - 1, by omega, q + 1, by omega, by rw [wrap64 (by omega) (by omega)]; simp, c.step s2 hge (k2.mono fun g hg => by subst hg; exact ⟨Nat.le_refl _, hno3⟩), fx.step c.d.fr.wf k2 (fun g hg => hg), _, s4, by simp [hlb], fun i i0 i1 => ?_⟩
            rw [nth_set a0 (by rw [hlb]; exact a1) i0, tm]
            by_cases hi : a = i
            · subst hi; simp
            · rw [if_neg hi, hm i i0 i1]
              simp [Ne.symm hi]
          · intro hlt
            have hqL : q = L.length := by omega
            rw [hqL, List.take_length] at hm
            have lo : FreeB tg3 (fun _ => False) X2 lv lb := ⟨some fd, ol, fun g hg => by have hg := Option.some.inj hg; subst hg; exact ⟨id, hno3⟩⟩
            simp [x3, x4, x6]
            refine WC.of (c534 D.d534 c hB1 hd1 lo (by rw [hlb, hn]) (L := L) (by rw [hn]; exact hm) (by rw [hn]; exact hLin) (by rw [hn]; exact hLn) hpred) ?_
            rintro ov K4 ⟨tg4, on, c5, lo5, fo5, hol, hon⟩
            rw [hn] at hol
            simp [x3, x4, x6]
            refine W_loop (fun (z : Nat) e X => e 3 = .ptr (some (b, 0)) ∧ e 6 = lv ∧ e 9 = ov ∧ ∃ q : Nat, z + q = n ∧ e 10 = .int .i64 q ∧ ∃ tg, Kc H tg X b kb S1 Q1 ∧ FreeB tg (fun _ => False) X lv lb ∧ FreeB tg (fun _ => False) X ov on) id n ?_ ?_
            · exact ⟨by simp [x3], by simp [x6], by simp, 0, by simp, by simp, tg4, c5, lo5, fo5⟩
            · rintro z3 e X3 ⟨x3, x6, x9, q, hq, x10, tg5, c, lo, fo⟩
              have blen := lo.sl.len
              rw [hlb] at blen
              simp [x3, x6, x9, x10, blen]
              refine WB.dec ?_ ?_
              · intro hlt
                have qQ : (q : Int) < Q1.cells.length := by omega
                obtain ⟨s1, s2, s3⟩ := state_countT hB1 hN1 hn1 (i := (q : Int)) (by omega) qQ
                simp [x3, x6, x9, x10]
                refine WC.of (p341 D.d341 c.d.fr.wf c.d.ok c.d.hp hB1) ?_
                rintro r1 Z1 ⟨rfl, tg6, u6, h6⟩
                have lo := lo.up c.d.fr.wf u6
                have fo := fo.up c.d.fr.wf u6
                replace c := c.up u6 h6
                simp [x3, x6, x9, x10]
                refine WC.of (p340 D.d340 c.d.fr.wf c.d.ok c.d.hp hB1) ?_
                rintro r2 Z2 ⟨rfl, tg7, u7, h7⟩
                have lo := lo.up c.d.fr.wf u7
                have fo := fo.up c.d.fr.wf u7
                replace c := c.up u7 h7
                obtain ⟨st, hst⟩ : ∃ st, stateR Q1.hp (q : Int) = st := ⟨_, rfl⟩
                obtain ⟨cn, hcn⟩ : ∃ cn, countQ Q1 (q : Int) = cn := ⟨_, rfl⟩
                rw [hst] at s1 s3
                rw [hcn] at s2 s3
                rw [hst, hcn]
                have ia1 := lo.sl.ia (k := .i64) (i := (q : Int)) (by omega) (by omega)
                have ld1 := lo.sl.ld (i := (q : Int)) (by omega) (by omega)
                have ia2 := fo.sl.ia (k := .i64) (i := (q : Int)) (by omega) (by omega)
                have ld2 := fo.sl.ld (i := (q : Int)) (by omega) (by omega)
                have fin : ∃ j, j < z3 ∧ ∃ q', j + q' = n ∧ IntKind.i64.wrap ((q : Int) + 1) = (q' : Int) ∧ ∃ tg, Kc H tg Z2 b kb S1 Q1 ∧ FreeB tg (fun _ => False) Z2 lv lb ∧ FreeB tg (fun _ => False) Z2 ov on :=
                  ⟨z3 - 1, by omega, q + 1, by omega, by rw [wrap64 (by omega) (by omega)]; simp, tg7, c, lo, fo⟩
                cases hb1 : nth lb (q : Int) with
                | false =>
                  rw [hb1] at ld1
                  by_cases c2 : st.1 = 2
                  · simp [x3, x6, x9, x10, s1, s2, c2, ia1, ld1, encB]
                    exact fin
                  · simp [x3, x6, x9, x10, s1, s2, c2, s3 c2, ia1, ld1, encB]
                    exact fin
                | true =>
                  rw [hb1] at ld1
                  have hqL := (hm q (by omega) (by omega)).1 hb1
                  rw [hon _ hqL] at ld2
                  by_cases c2 : st.1 = 2
                  · simp [x3, x6, x9, x10, s1, s2, c2, ia1, ld1, ia2, ld2, encB]
                    exact fin
                  · simp [x3, x6, x9, x10, s1, s2, c2, s3 c2, ia1, ld1, ia2, ld2, encB]
                    exact fin
              · intro hlt
                simp [x3]
                refine WC.of (p343 D.d343 c.d.fr.wf c.d.ok c.d.hp hB1 (by omega) (by omega) (by omega)) ?_
                rintro r1 Z1 ⟨rfl, S2, ⟨tg6, u6, h6⟩, e6⟩
                have d6 := c.d.up u6 h6
                by_cases hc : Q1.cells.length = 100
                · have hfull := make_full (Q := Q1) (n := 1) true (by omega) (by omega) hc
                  rw [hfull] at e6 ⊢
                  simp [x3]
                  refine WC.of (p341 D.d341 d6.fr.wf d6.ok d6.hp e6.both) ?_
                  rintro r1 Z2 ⟨rfl, tg7, u7, h7⟩
                  have d7 := d6.up u7 h7
                  simp [x3]
                  refine WC.of (c535 D.d535 d7.fr.wf) ?_
                  rintro r Z' rfl
                  simp
                · obtain ⟨m1, m2, m3, m4⟩ := make_lists (Q := Q1) (n := 1) true (by omega) (by omega) hc
                  obtain ⟨nc1, nc2⟩ := new_count hB1 true hc
                  rw [m1]
                  simp [x3]
                  refine WC.of (p341 D.d341 d6.fr.wf d6.ok d6.hp e6.both) ?_
                  rintro r1 Z2 ⟨rfl, tg7, u7, h7⟩
                  have d7 := d6.up u7 h7
                  rw [nc1]
                  have hp6 := e6.ph
                  simp [x3]
                  refine WC.of (p324 D.d324 d7.fr.wf d7.ok d7.hp e6.both (by omega) (by omega)) ?_
                  rintro r1 Z3 ⟨rfl, S3, ⟨tg8, u8, h8⟩, e8⟩
                  have d8 := d7.up u8 h8
                  rw [nc2]
                  simp [x3]
                  refine WC.of (c535 D.d535 d8.fr.wf) ?_
                  rintro r Z' rfl
                  simp
theorem law531 (D : D531 T) {K : AHeap} {as : List AV} (hw : WF K) (hg : Goods K [.slice shA] as) : Calls T 531 as K fun v _ => v = .bool true := by
  obtain ⟨a, r, rfl, g1, rfl⟩ := hg
  obtain ⟨l, hl⟩ := g1.acts
  exact c531 D hw hl
end Go.Am
