/- The law HeapCopies. -/
import Derived.Test.YtpdedphkjkhddaaAmRefK
import Derived.Test.YtpdedphkjkhddaaAmHeapRU
import Derived.Test.YtpdedphkjkhddaaAmHeapCs
set_option linter.unusedVariables false
set_option linter.unusedSimpArgs false
namespace Go.Am
variable {T : Tab}
/-! ### Other names for structures -/
theorem HpR.retag {k k' : Nat} {tg tg' : Tags} {H : AHeap} {b : Nat} {lk : Int} {S : Hp} (h : HpR k tg H b lk S) (ht : ∀ g t, tg g = some (k, t) → tg' g = some (k', t)) : HpR k' tg' H b lk S := by
  obtain ⟨fb, m, cv, nv, fc, fn, xs, ff, h⟩ := h
  exact ⟨fb, m, cv, nv, fc, fn, xs, ff, h.box, ht _ _ h.tb, h.cs, fun g hg => ht _ _ (h.tc g hg), h.ns, fun g hg => ht _ _ (h.tn g hg), h.xc, fun i x hx => ⟨(h.fs i x hx).1, fun g hg => ht _ _ ((h.fs i x hx).2 g hg)⟩, h.mp, ht _ _ h.tm⟩
theorem RpR.retag {k k' : Nat} {tg tg' : Tags} {H : AHeap} {b : Nat} {S : Rp} (h : RpR k tg H b S) (ht : ∀ g t, tg g = some (k, t) → tg' g = some (k', t)) : RpR k' tg' H b S := by
  obtain ⟨fb, cv, nv, fc, fn, xs, ff, h⟩ := h
  exact ⟨fb, cv, nv, fc, fn, xs, ff, h.box, ht _ _ h.tb, h.cs, fun g hg => ht _ _ (h.tc g hg), h.ns, fun g hg => ht _ _ (h.tn g hg), h.xc, fun i x hx => ⟨(h.fs i x hx).1, fun g hg => ht _ _ ((h.fs i x hx).2 g hg)⟩⟩
def sw : Nat → Nat
  | 0 => 2 | 1 => 3 | 2 => 0 | 3 => 1 | n => n
def swap (tg : Tags) : Tags := fun g => (tg g).map fun x => (sw x.1, x.2)
theorem swap_some {tg : Tags} {g k : Nat} {t : Tag} (h : tg g = some (k, t)) : swap tg g = some (sw k, t) := by unfold swap; rw [h]; rfl
theorem swap_none {tg : Tags} {g : Nat} (h : tg g = none) : swap tg g = none := by unfold swap; rw [h]; rfl
/-! ### The plain law -/
theorem ext_nth {α : Type} [Inhabited α] {l m : List α} (hl : l.length = m.length) (h : ∀ i : Int, 0 ≤ i → i < l.length → nth l i = nth m i) : l = m := by
  apply List.ext_getElem hl
  intro i h1 h2
  have := h (i : Int) (by omega) (by omega)
  have e1 : nth l (i : Int) = l[i] := by simp [nth, List.getElem?_eq_getElem h1]
  have e2 : nth m (i : Int) = m[i] := by simp [nth, List.getElem?_eq_getElem h2]
  rwa [e1, e2] at this
theorem refs_congr {cs cs' : List Cel} (h : cs.map (·.fs) = cs'.map (·.fs)) (a : Int) : refs cs a = refs cs' a := by
  have e : ∀ cs : List Cel, refs cs a = ((cs.map (·.fs)).map fun fs => cnt fs a).sum := fun cs => by simp only [refs, List.map_map]; rfl
  rw [e, e, h]
theorem both_pair {A : Int} {S : Hp} {Q : Rp} (h : Both A S Q) {a v : Int} : (a, v) ∈ S.roots ↔ v ≠ 0 ∧ 0 ≤ a ∧ a < Q.cells.length ∧ (nth Q.cells a).n = v := by
  constructor
  · intro hm
    obtain ⟨h0, h1, h2⟩ := h.ro.in_ _ hm
    simp only at h0 h1 h2
    rw [h.sim.len] at h1
    refine ⟨by omega, h0, h1, ?_⟩
    rw [← (h.sim.at_ a h0 h1).2]
    exact rget_of h.ro.keys hm
  · rintro ⟨hv, h0, h1, h2⟩
    rw [← (h.sim.at_ a h0 h1).2] at h2
    have := rget_mem (es := S.roots) (k := a) (by rw [h2]; exact hv)
    rwa [h2] at this
theorem alike_iff {A A' : Int} {S S' : Hp} {Q Q' : Rp} (h : Both A S Q) (h' : Both A' S' Q') : Alike S S' ↔ Q.cells = Q'.cells ∧ Q.notes = Q'.notes := by
  constructor
  · rintro ⟨hc, hn, _⟩
    have hl : Q.cells.length = Q'.cells.length := by rw [← h.sim.len, ← h'.sim.len, hc]
    have hfs : ∀ i : Int, (nth Q.cells i).fs = (nth Q'.cells i).fs := fun i => by rw [← (h.fs i).1, ← (h'.fs i).1, hc]
    have hmap : Q.cells.map (·.fs) = Q'.cells.map (·.fs) := by
      apply List.ext_getElem (by simp [hl])
      intro i h1 h2
      simp at h1 h2
      have := hfs (i : Int)
      simpa [nth, List.getElem?_eq_getElem h1, List.getElem?_eq_getElem h2] using this
    refine ⟨ext_nth hl fun i i0 i1 => ?_, by rw [← h.sim.notes, ← h'.sim.notes, hn]⟩
    have e1 := (h.sim.at_ i i0 i1).1
    have e2 := (h'.sim.at_ i i0 (by rw [← hl]; exact i1)).1
    rw [hc] at e1
    rw [e1, refs_congr hmap] at e2
    generalize nth Q.cells i = x at e2 ⊢
    generalize nth Q'.cells i = y at e2 ⊢
    obtain ⟨a1, a2, a3, a4, a5⟩ := x
    obtain ⟨c1, c2, c3, c4, c5⟩ := y
    simp only [Cel.mk.injEq] at e2 ⊢
    obtain ⟨p1, p2, p3, p4, p5⟩ := e2
    exact ⟨p1, p2, p3, p4, by omega⟩
  · rintro ⟨hc, hn⟩
    have hl : S.cells.length = S'.cells.length := by rw [h.sim.len, h'.sim.len, hc]
    refine ⟨ext_nth hl fun i i0 i1 => ?_, by rw [h.sim.notes, h'.sim.notes, hn], ?_⟩
    · have iQ : i < Q.cells.length := by rw [← h.sim.len]; exact i1
      rw [(h.sim.at_ i i0 iQ).1, (h'.sim.at_ i i0 (by rw [← hc]; exact iQ)).1, hc]
    · rintro ⟨a, v⟩
      rw [both_pair h, both_pair h', hc]
theorem both_cb {A : Int} {S : Hp} {Q : Rp} (h : Both A S Q) (g : Graph Q.cells) (hp : phi Q < 2 ^ 29) : Cb S := by
  obtain ⟨g1, g2, g3, g4⟩ := both_graph h g
  refine ⟨g1.len, g1.fl, ?_, h.ro.keys, fun e he => (h.ro.in_ e he).2.2⟩
  rw [h.sim.notes]
  unfold phi at hp
  omega
/-- A heap whose roots lie in another order. -/
theorem both_roots {A : Int} {S : Hp} {Q : Rp} (h : Both A S Q) {rs : List (Int × Int)} (hk : Keys rs) (hm : ∀ e, e ∈ rs ↔ e ∈ S.roots) : Both A { S with roots := rs } Q := by
  have hr : ∀ a, rget rs a = rget S.roots a := by
    intro a
    by_cases hz : rget rs a = 0
    · rw [hz]
      apply Classical.byContradiction
      intro hn
      have := (hm _).2 (rget_mem (es := S.roots) (k := a) (fun e => hn e.symm))
      rw [rget_of hk this] at hz
      exact hn hz.symm
    · have := (hm _).1 (rget_mem hz)
      exact (rget_of h.ro.keys this).symm
  exact ⟨⟨h.sim.len, h.sim.notes, fun i i0 i1 => ⟨(h.sim.at_ i i0 i1).1, by rw [← (h.sim.at_ i i0 i1).2]; exact hr i⟩⟩, h.good, ⟨hk, fun e he => h.ro.in_ e ((hm e).1 he)⟩⟩
theorem c315 (D : D315 T) {H : AHeap} (hw : WF H) {v0 v1 : AV} {l0 l1 : List Act} (hl0 : Sl encAct 5 H v0 l0) (hl1 : Sl encAct 5 H v1 l1) : Calls T 315 [v0, v1] H fun r K => r = .bool true := by
  refine Calls.fn D.pr D.fn ?_
  by_cases big : 300 < l0.length ∨ 300 < l1.length
  · by_cases b0 : 300 < l0.length
    · have b0' : (300 : Int) < l0.length := by omega
      simp [ir315, hl0.len, hl1.len, b0, b0']
      refine WC.of (c319 D.d319 hw) ?_
      rintro r K rfl
      simp
    · have b1 : 300 < l1.length := by omega
      have b0' : ¬(300 : Int) < l0.length := by omega
      have b1' : (300 : Int) < l1.length := by omega
      simp [ir315, hl0.len, hl1.len, b0, b0', b1, b1']
      refine WC.of (c319 D.d319 hw) ?_
      rintro r K rfl
      simp
  · have b0 : ¬300 < l0.length := by omega
    have b1 : ¬300 < l1.length := by omega
    have b0' : ¬(300 : Int) < l0.length := by omega
    have b1' : ¬(300 : Int) < l1.length := by omega
    have hb : psem (.bld [.slc none 0 0 none, .slc none 0 0 none] []) [] = some (.agg [.slc none 0 0 none, .slc none 0 0 none]) := by simp [psem_bld', fill]
    simp [ir315, hl0.len, hl1.len, b0, b0', b1, b1']
    refine WC.of (c320 (tg := fun _ => none) D.d320 0 hw (fun _ _ => rfl)) ?_
    rintro r K ⟨rfl, tg1, u1, h1⟩
    obtain ⟨tg2, u2, h2⟩ := refNew (k := 1) u1.wf u1.ok
    obtain ⟨e1, e2⟩ := upNew (H0 := H) (Fr.refl hw) (fun g j t ht => by cases ht) u1
    obtain ⟨e3, e4⟩ := upNew e1 e2 u2
    have d : Duo H tg2 _ (H.next + 1) K.next Hp.none Rp.none := ⟨e3, u2.ok, e4, h1.other u1.wf (by decide) u2, h2⟩
    simp [hb, AV.cells, AV.cell]
    obtain ⟨b1, hb1⟩ : ∃ b, H.next + 1 = b := ⟨_, rfl⟩
    obtain ⟨b2, hb2⟩ : ∃ b, K.next = b := ⟨_, rfl⟩
    rw [hb1, hb2] at d
    rw [hb1, hb2]
    refine W_loop (fun (i : Nat) e X => e 0 = v0 ∧ e 1 = v1 ∧ e 5 = .ptr (some (b1, 0)) ∧ e 6 = .ptr (some (b2, 0)) ∧ ∃ j : Nat, i + j = l0.length ∧ e 7 = .int .i64 j ∧ ∃ tg S Q, Duo H tg X b1 b2 S Q ∧ Both ((j : Int) + 1) S Q ∧ phi Q ≤ 12 * j ∧ Dry Q) id l0.length ?_ ?_
    · exact ⟨by simp, by simp, by simp, by simp, 0, by simp, by simp, _, _, _, d, both_none, by decide, dry_none⟩
    · rintro i e X ⟨x0, x1, x5, x6, j, hj, x7, tg, S, Q, d, hB, hp, dry⟩
      simp [x0, x1, x5, x6, x7, hl0.len]
      refine WB.dec ?_ ?_
      · intro hjl
        have hs := hl0.fr hw d.fr
        have ia := hs.ia (k := .i64) (i := j) (by omega) (by omega)
        have ld := hs.ldA (i := j) (by omega) (by omega) (cs := [.int .i64 (nth l0 j).o, .int .i64 (nth l0 j).x, .int .i64 (nth l0 j).y, .int .i64 (nth l0 j).z, .str (nth l0 j).s]) rfl
        simp [x0, x1, x5, x6, x7, ia, ld]
        refine WC.of (c321 D.d321 d hB (by omega) (by omega) (by omega)) ?_
        rintro r Y ⟨rfl, tg1, S1, Q1, d1, hB1, hp1, hd1⟩
        have hp1 : phi Q1 ≤ 12 * (j + 1) := by omega
        simp [x0, x1, x5, x6, x7]
        refine ⟨i - 1, by omega, j + 1, by omega, ?_, _, _, _, d1, ?_, hp1, hd1 dry⟩
        · rw [wrap64 (by omega) (by omega)]; simp
        · simpa using hB1
      · intro hjl
        have g := graph hB dry
        have cb := both_cb hB g (by omega)
        simp [x5, x6]
        refine WC.of (c328 D.d328 (k := 0) (k2 := 2) (by decide) d.fr.wf d.ok d.hp cb.len cb.fl cb.notes cb.keys) ?_
        rintro r K1 ⟨tg1, bg, rs, rfl, u1, p1, p2, ks, ms⟩
        have r1 := u1.rp d.rp d.fr.wf (k := 1) (by decide)
        have hQn : Q.notes.length < 2 ^ 39 := by rw [← hB.sim.notes]; exact cb.notes
        simp [x5, x6]
        refine WC.of (c329 D.d329 (k := 1) (k2 := 3) (by decide) u1.wf u1.ok r1 g.shp.len g.shp.fl hQn) ?_
        rintro r K2 ⟨tg2, bq, rfl, u2, r2, r3⟩
        have p1' := p1.other u1.wf (by decide) u2
        have p2' := p2.other u1.wf (by decide) u2
        have hBg := both_roots hB ks ms
        have cbg := both_cb hBg g (by omega)
        have us2 : Ups (fun j => j = 0 ∨ j = 2 ∨ j = 3) tg tg2 X K2 := (u1.mono (by omega)).trans d.fr.wf (.of u2 (by omega))
        simp [x5, x6]
        refine WC.of (c330 D.d330 (k1 := 2) (k2 := 0) (k3 := 4) (k4 := 5) (by decide) (by decide) (by decide) (by decide) (by decide) (by decide) u2.wf u2.ok p2' p1' cbg cb) ?_
        rintro r K3 ⟨t, tg3, rfl, ht, u3, p3, p4⟩
        have ht : t = true := ht.2 ⟨rfl, rfl, ms⟩
        subst ht
        have r4 := u3.rp r2 u2.wf (k := 1) (by decide)
        have r5 := u3.rp r3 u2.wf (k := 3) (by decide)
        obtain ⟨n1, n2⟩ := upsNew d.fr d.new us2
        obtain ⟨n3, n4⟩ := upsNew n1 n2 u3
        have dU : DuoU tg3 K3 H tg3 K3 b1 b2 S Q := { fr := n3, ok := u3.ok, new := n4, hp := p4, rp := r4, wz := u3.wf, us := .refl u3.wf u3.ok }
        simp [x0, x1, x5, x6]
        have hjl0 : j ≤ 300 := by omega
        refine W_loop (fun (i : Nat) e X => e 1 = v1 ∧ e 5 = .ptr (some (b1, 0)) ∧ e 6 = .ptr (some (b2, 0)) ∧ e 8 = .ptr (some (bg, 0)) ∧ e 9 = .ptr (some (bq, 0)) ∧ ∃ q : Nat, i + q = l1.length ∧ e 10 = .int .i64 q ∧ ∃ tg S' Q', DuoU tg3 K3 H tg X b1 b2 S' Q' ∧ Both ((j : Int) + 1 + q) S' Q' ∧ phi Q' ≤ 12 * (j + q) ∧ Dry Q') id l1.length ?_ ?_
        · exact ⟨by simp [x1], by simp [x5], by simp [x6], by simp, by simp, 0, by simp, by simp, _, _, _, dU, by simpa using hB, by omega, dry⟩
        · rintro i e X ⟨x1, x5, x6, x8, x9, q, hq, x10, tg, S', Q', d, hB', hp', dry'⟩
          simp [x1, x5, x6, x8, x9, x10, hl1.len]
          refine WB.dec ?_ ?_
          · intro hql
            have hs := hl1.fr hw d.fr
            have ia := hs.ia (k := .i64) (i := q) (by omega) (by omega)
            have ld := hs.ldA (i := q) (by omega) (by omega) (cs := [.int .i64 (nth l1 q).o, .int .i64 (nth l1 q).x, .int .i64 (nth l1 q).y, .int .i64 (nth l1 q).z, .str (nth l1 q).s]) rfl
            simp [x1, x5, x6, x8, x9, x10, ia, ld]
            refine WC.of (c321u D.d321 d hB' (by omega) (by omega) (by omega)) ?_
            rintro r Y ⟨rfl, tg1, S1, Q1, d1, hB1, hp1, hd1⟩
            have hp1 : phi Q1 ≤ 12 * (j + (q + 1)) := by omega
            simp [x1, x5, x6, x8, x9, x10]
            refine ⟨i - 1, by omega, q + 1, by omega, ?_, _, _, _, d1, ?_, hp1, hd1 dry'⟩
            · rw [wrap64 (by omega) (by omega)]; simp
            · have e : ((j : Int) + 1 + (q + 1 : Nat)) = (j : Int) + 1 + q + 1 := by omega
              rw [e]; exact hB1
          · intro hql
            have g' := graph hB' dry'
            have cb' := both_cb hB' g' (by omega)
            have gg := d.us.hp p3 u3.wf (k := 2) (by decide)
            have qq := d.us.rp r5 u3.wf (k := 3) (by decide)
            -- the copies in the others' places
            have dS : DuoU (swap tg) X H (swap tg) X bg bq { S with roots := rs } Q := {
              fr := d.fr
              ok := fun g hg => swap_none (d.ok g hg)
              new := fun g k t ht => by
                cases h : tg g with
                | none => rw [swap_none h] at ht; cases ht
                | some x => exact d.new g x.1 x.2 h
              hp := gg.retag fun g t h => swap_some h
              rp := qq.retag fun g t h => swap_some h
              wz := d.fr.wf
              us := .refl d.fr.wf fun g hg => swap_none (d.ok g hg) }
            have hh : HpR 2 (swap tg) X b1 0 S' := d.hp.retag fun g t h => swap_some h
            have rr : RpR 3 (swap tg) X b2 Q' := d.rp.retag fun g t h => swap_some h
            simp [x5, x6, x8, x9]
            refine WC.of (c322u D.d322 dS hBg (by omega) (by omega)) ?_
            rintro r Z ⟨rfl, tg5, d5⟩
            have hh5 := d5.us.hp hh d.fr.wf (k := 2) (by decide)
            have rr5 := d5.us.rp rr d.fr.wf (k := 3) (by decide)
            simp [x5, x6, x8, x9]
            refine WC.of (c330 D.d330 (k1 := 0) (k2 := 2) (k3 := 4) (k4 := 5) (by decide) (by decide) (by decide) (by decide) (by decide) (by decide) d5.fr.wf d5.ok d5.hp hh5 cbg cb') ?_
            rintro r Z1 ⟨t1, tg6, rfl, ht1, u6, _, _⟩
            have q6 := u6.rp d5.rp d5.fr.wf (k := 1) (by decide)
            have r6 := u6.rp rr5 d5.fr.wf (k := 3) (by decide)
            simp [x5, x6, x8, x9]
            refine WC.of (c331 D.d331 (k1 := 1) (k2 := 3) u6.wf u6.ok q6 r6 g.shp.len g.shp.fl hQn) ?_
            rintro r Z2 ⟨t2, f7, rfl, ht2⟩
            have htt : t1 = t2 := by
              rw [Bool.eq_iff_iff, ht1, ht2]
              exact alike_iff hBg hB'
            subst htt
            simp [x5, x6, x8, x9]
            refine WC.of (c319 D.d319 f7.wf) ?_
            rintro r Z' rfl
            simp
theorem law315 (D : D315 T) {K : AHeap} {as : List AV} (hw : WF K) (hg : Goods K [.slice shA, .slice shA] as) : Calls T 315 as K fun v _ => v = .bool true := by
  obtain ⟨a, r, rfl, g1, a2, r2, rfl, g2, rfl⟩ := hg
  obtain ⟨l, hl⟩ := g1.acts
  obtain ⟨l2, hl2⟩ := g2.acts
  exact c315 D hw hl hl2
end Go.Am
