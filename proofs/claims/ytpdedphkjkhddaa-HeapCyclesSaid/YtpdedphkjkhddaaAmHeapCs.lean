/- The law HeapCycles. -/
import Derived.Test.YtpdedphkjkhddaaAmRefI
import Derived.Test.YtpdedphkjkhddaaAmHeapS
set_option linter.unusedVariables false
set_option linter.unusedSimpArgs false
namespace Go.Am
variable {T : Tab}
/-- Two lists of sets. -/
theorem c336 (D : D336 T) {H : AHeap} {tg : Tags} {u v : AV} {l : List (List Int)} (hu : FreeL tg H u l) (hv : FreeL tg H v l) (hl : l.length ≤ 2 ^ 30) (hll : ∀ x ∈ l, x.length ≤ 2 ^ 30) : Calls T 336 [u, v] H fun r H' => H' = H ∧ r = .bool true := by
  refine Calls.fn D.pr D.fn ?_
  simp [ir336, hu.len, hv.len]
  refine W_loop (fun (i : Nat) e K => K = H ∧ e 0 = u ∧ e 1 = v ∧ ∃ j : Nat, i + j = l.length ∧ e 5 = .int .i64 j) id l.length ?_ ?_
  · exact ⟨rfl, by simp, by simp, 0, by simp, by simp⟩
  · rintro i e K ⟨rfl, x0, x1, j, hj, x5⟩
    simp [x0, x1, x5, hu.len]
    refine WB.dec ?_ ?_
    · intro hlt
      obtain ⟨a, a1, a2, a3⟩ := hu.get (i := j) (by omega)
      obtain ⟨c, c1, c2, c3⟩ := hv.get (i := j) (by omega)
      simp [x0, x1, x5, a1, a2, c1, c2]
      refine WC.of (c135 D.d135 a3 c3 (by have := hll _ (nth_mem (l := l) (i := (j : Int)) (by omega) (by omega)); omega)) ?_
      rintro r K' ⟨rfl, rfl⟩
      simp [x0, x1, x5]
      exact ⟨i - 1, by omega, j + 1, by omega, by rw [wrap64 (by omega) (by omega)]; simp⟩
    · intro hlt
      simp
theorem keys_len {es : List (Int × Int)} {n : Nat} (hk : Keys es) (h : ∀ e ∈ es, 0 ≤ e.1 ∧ e.1 < n) : es.length ≤ n := by
  have : es.map (·.1) ⊆ (List.range n).map fun (i : Nat) => (i : Int) := by
    intro a ha
    obtain ⟨e, he, rfl⟩ := List.mem_map.1 ha
    obtain ⟨h0, h1⟩ := h e he
    exact List.mem_map.2 ⟨e.1.toNat, List.mem_range.2 (by omega), by omega⟩
  have := List.Nodup.length_le_of_subset hk this
  simpa using this
theorem both_graph {A : Int} {S : Hp} {Q : Rp} (h : Both A S Q) (g : Graph Q.cells) : Shp S.cells ∧ (∀ c ∈ S.cells, ∀ t ∈ strongs c.fs, 0 ≤ t ∧ t < S.cells.length) ∧ (∀ e ∈ S.roots, 0 ≤ e.1 ∧ e.1 < S.cells.length) ∧ S.roots.length ≤ 2 ^ 20 := by
  have hl := g.shp.len
  have sl := h.sim.len
  have at_ : ∀ c ∈ S.cells, ∃ c' ∈ Q.cells, c.fs = c'.fs := by
    intro c hc
    obtain ⟨i, hi, rfl⟩ := mem_nth hc
    exact ⟨_, nth_mem (i := (i : Int)) (by omega) (by omega), (h.fs _).1⟩
  refine ⟨⟨by omega, fun c hc => ?_⟩, fun c hc t ht => ?_, fun e he => ⟨(h.ro.in_ e he).1, (h.ro.in_ e he).2.1⟩, ?_⟩
  · obtain ⟨c', hc', e⟩ := at_ c hc
    rw [e]; exact g.shp.fl c' hc'
  · obtain ⟨c', hc', e⟩ := at_ c hc
    rw [e] at ht
    rw [sl]
    exact g.to c' hc' t ht
  · have := keys_len h.ro.keys (n := S.cells.length) fun e he => ⟨(h.ro.in_ e he).1, (h.ro.in_ e he).2.1⟩
    omega
theorem both_lm {A : Int} {S : Hp} {Q : Rp} (h : Both A S Q) : lm S.cells = lm Q.cells := by
  funext a b
  rw [Bool.eq_iff_iff, lm_iff, lm_iff, (h.fs _).1]
  constructor
  · rintro ⟨r, h1, h2⟩; exact ⟨r, h1, h.reach.1 h2⟩
  · rintro ⟨r, h1, h2⟩; exact ⟨r, h1, h.reach.2 h2⟩
theorem cyc_mem (M : Nat → Nat → Bool) (n : Nat) (lo : Nat → Nat) : ∀ k, ∀ x ∈ (cycGo M n lo k).2, x.length ≤ n
  | 0 => by simp [cycGo]
  | k + 1 => by
    intro x hx
    unfold cycGo at hx
    split at hx
    · exact cyc_mem M n lo k x hx
    · rcases List.mem_append.1 hx with q | q
      · exact cyc_mem M n lo k x q
      · rw [List.mem_singleton] at q; subst q; exact grp_len M n k (lo k)
theorem c316 (D : D316 T) {H : AHeap} (hw : WF H) {v : AV} {l : List Act} (hl : Sl encAct 5 H v l) : Calls T 316 [v] H fun r K => r = .bool true := by
  refine Calls.fn D.pr D.fn ?_
  simp [ir316, hl.len]
  refine WB.dec ?_ ?_
  · intro h0
    simp
    refine WC.of (c319 D.d319 hw) ?_
    rintro r K rfl
    simp
  · intro h0
    have hb : psem (.bld [.slc none 0 0 none, .slc none 0 0 none] []) [] = some (.agg [.slc none 0 0 none, .slc none 0 0 none]) := by simp [psem_bld', fill]
    simp
    refine WC.of (c320 (tg := fun _ => none) D.d320 0 hw (fun _ _ => rfl)) ?_
    rintro r K ⟨rfl, tg1, u1, h1⟩
    obtain ⟨tg2, u2, h2⟩ := refNew (k := 1) u1.wf u1.ok
    obtain ⟨e1, e2⟩ := upNew (H0 := H) (Fr.refl hw) (fun g j t ht => by cases ht) u1
    obtain ⟨e3, e4⟩ := upNew e1 e2 u2
    have d : Duo H tg2 _ (H.next + 1) K.next Hp.none Rp.none := ⟨e3, u2.ok, e4, h1.other u1.wf (by decide) u2, h2⟩
    simp [hb, AV.cells, AV.cell]
    obtain ⟨b1, hb1⟩ : ∃ b, H.next + 1 = b := ⟨_, rfl⟩
    obtain ⟨b2, hb2⟩ : ∃ b, K.next = b := ⟨_, rfl⟩
    rw [hb1, hb2] at d
    rw [hb1, hb2]
    refine W_loop (fun (i : Nat) e X => e 0 = v ∧ e 3 = .ptr (some (b1, 0)) ∧ e 4 = .ptr (some (b2, 0)) ∧ ∃ j : Nat, i + j = l.length ∧ e 5 = .int .i64 j ∧ ∃ tg S Q, Duo H tg X b1 b2 S Q ∧ Both ((j : Int) + 1) S Q ∧ phi Q ≤ 12 * j ∧ Dry Q) id l.length ?_ ?_
    · exact ⟨by simp, by simp, by simp, 0, by simp, by simp, _, _, _, d, both_none, by decide, dry_none⟩
    · rintro i e X ⟨x0, x3, x4, j, hj, x5, tg, S, Q, d, hB, hp, dry⟩
      simp [x0, x3, x4, x5, hl.len]
      refine WB.dec ?_ ?_
      · intro hjl
        have hs := hl.fr hw d.fr
        have ia := hs.ia (k := .i64) (i := j) (by omega) (by omega)
        have ld := hs.ldA (i := j) (by omega) (by omega) (cs := [.int .i64 (nth l j).o, .int .i64 (nth l j).x, .int .i64 (nth l j).y, .int .i64 (nth l j).z, .str (nth l j).s]) rfl
        simp [x0, x3, x4, x5, ia, ld]
        refine WC.of (c321 D.d321 d hB (by omega) (by omega) (by omega)) ?_
        rintro r Y ⟨rfl, tg1, S1, Q1, d1, hB1, hp1, hd1⟩
        have hp1 : phi Q1 ≤ 12 * (j + 1) := by omega
        simp [x0, x3, x4, x5]
        refine ⟨i - 1, by omega, j + 1, by omega, ?_, _, _, _, d1, ?_, hp1, hd1 dry⟩
        · rw [wrap64 (by omega) (by omega)]; simp
        · simpa using hB1
      · intro hjl
        have g := graph hB dry
        obtain ⟨g1, g2, g3, g4⟩ := both_graph hB g
        have hQl := g.shp.len
        have hSl := hB.sim.len
        simp [x3, x4]
        refine WC.of (c332 D.d332 d.fr.wf d.ok d.hp g1 g2 g3 g4) ?_
        rintro r1 K1 ⟨tg1, u1, h1, bs, led, f1⟩
        have d1 := d.one u1 h1
        obtain ⟨fb, cv, nv, fc, fn, xs, ff, hr⟩ := d1.rp
        simp [x3, x4]
        refine WC.of (c333 D.d333 d1.fr.wf d1.ok hr g) ?_
        rintro r2 K2 ⟨fr2, cs, led2, m2⟩
        have d2 := d1.free fr2
        have e := led_same hB led led2
        subst e
        have f1' := f1.up d1.fr.wf (Up.fr (k := 0) d1.fr.wf d1.ok fr2)
        have hbl := numsTo_len bs bs.length
        have hbs := led.1
        simp [x3, x4]
        refine WC.of (c135 D.d135 f1'.sl m2.sl (by omega)) ?_
        rintro r K3 ⟨rfl, rfl⟩
        simp [x3, x4]
        refine WC.of (c334 D.d334 d2.fr.wf d2.ok d2.hp g1 g2 g3 g4) ?_
        rintro r1 K4 ⟨tg3, u3, h3, bs1, ls, led3, lost3, f3⟩
        have d3 := d2.one u3 h3
        obtain ⟨fb, cv, nv, fc, fn, xs, ff, hr⟩ := d3.rp
        simp [x3, x4]
        refine WC.of (c335 D.d335 d3.fr.wf d3.ok hr g) ?_
        rintro r2 K5 ⟨fr4, cs1, ls1, led4, lost4, m4⟩
        have d4 := d3.free fr4
        have e := lost_same hB led3 led4 lost3 lost4
        subst e
        have f3' := f3.up d3.fr.wf (Up.fr (k := 0) d3.fr.wf d3.ok fr4)
        have hbl := numsTo_len ls ls.length
        have hls := lost3.1
        have hbs1 := led3.1
        simp [x3, x4]
        refine WC.of (c135 D.d135 f3'.sl m4.sl (by omega)) ?_
        rintro r K6 ⟨rfl, rfl⟩
        simp [x3, x4]
        refine WC.of (c337 D.d337 d4.fr.wf d4.ok d4.hp g1 g2) ?_
        rintro r1 K7 ⟨tg5, u5, h5, f5⟩
        have d5 := d4.one u5 h5
        obtain ⟨fb, cv, nv, fc, fn, xs, ff, hr⟩ := d5.rp
        simp [x3, x4]
        refine WC.of (c338 D.d338 d5.fr.wf d5.ok hr g) ?_
        rintro r2 K8 ⟨fr6, f6⟩
        have d6 := d5.free fr6
        have f5' := f5.up d5.fr.wf (Up.fr (k := 0) d5.fr.wf d5.ok fr6)
        have e : (cycGo (lm S.cells) S.cells.length (fun _ => 0) S.cells.length).2 = (cycGo (lm Q.cells) Q.cells.length id Q.cells.length).2 := by
          rw [both_lm hB, hSl]
          exact cyc_same (lm Q.cells) (fun a b c => lm_trans a b c) _ (Nat.le_refl _)
        rw [e] at f5'
        have hcl := cyc_len (lm Q.cells) Q.cells.length id Q.cells.length
        simp [x3, x4]
        refine WC.of (c336 D.d336 f5' f6 (by simp; omega) (fun x hx => ?_)) ?_
        · obtain ⟨y, hy, rfl⟩ := List.mem_map.1 hx
          have := cyc_mem _ _ _ _ y hy
          rw [ints_len]; omega
        · rintro r K9 ⟨rfl, rfl⟩
          simp [x3, x4]
          refine WC.of (c319 D.d319 d6.fr.wf) ?_
          rintro r Z' rfl
          simp [x3, x4]
theorem law316 (D : D316 T) {K : AHeap} {as : List AV} (hw : WF K) (hg : Goods K [.slice shA] as) : Calls T 316 as K fun v _ => v = .bool true := by
  obtain ⟨a, r, rfl, g1, rfl⟩ := hg
  obtain ⟨l, hl⟩ := g1.acts
  exact c316 D hw hl
end Go.Am
