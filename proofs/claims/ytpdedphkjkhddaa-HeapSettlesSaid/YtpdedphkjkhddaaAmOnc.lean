/- Contract: onCycles. -/
import Derived.Test.YtpdedphkjkhddaaAmSetl
set_option linter.unusedVariables false
set_option linter.unusedSimpArgs false
namespace Go.Am
variable {T : Tab}
/-- What holds while held is filled. -/
structure Oc (H0 : AHeap) (tg : Tags) (H : AHeap) (b : Nat) (S : Hp) (m1 m2 : Nat) (lv : AV) (L hs : List Int) : Prop where
  d : Uno H0 tg H b S
  l1 : ∃ ks, Ms tg H m1 ks ∧ ∀ c, c ∈ ks ↔ c ∈ L
  l2 : Ms tg H m2 hs
  fl : FreeX tg (fun g => g = m2) H lv L
  ne : m1 ≠ m2
  ge : H0.next ≤ m2
section
variable {H0 H K : AHeap} {tg tg' : Tags} {b m1 m2 : Nat} {S : Hp} {lv : AV} {L hs : List Int}
theorem Oc.up (h : Oc H0 tg H b S m1 m2 lv L hs) (u : Up 0 tg tg' H K) (hp : HpR 0 tg' K b 0 S) : Oc H0 tg' K b S m1 m2 lv L hs := by
  obtain ⟨ks, k1, k2⟩ := h.l1
  exact ⟨h.d.up u hp, ⟨ks, k1.up h.d.fr.wf u, k2⟩, h.l2.up h.d.fr.wf u, h.fl.up h.d.fr.wf u, h.ne, h.ge⟩
theorem Oc.put (h : Oc H0 tg H b S m1 m2 lv L hs) (a : Int) :
    ∃ K hs', wsem0 (.mset .int) [.map (some m2), .int .i64 a, .bool true] H = some (.undef, K) ∧ Oc H0 tg K b S m1 m2 lv L hs' ∧ (∀ c, c ∈ hs' ↔ c = a ∨ c ∈ hs) ∧ Keeps (fun g => g = m2) H K := by
  obtain ⟨K, hs', q1, q2, q3, q4, q5⟩ := h.l2.put h.d.fr.wf a
  obtain ⟨ks, k1, k2⟩ := h.l1
  have no := h.l2.no
  exact ⟨K, hs', q1, ⟨h.d.step q2 h.ge (q5.mono fun g hg => by subst hg; exact ⟨Nat.le_refl _, no⟩), ⟨ks, k1.step q5 h.ne, k2⟩, q3, h.fl.step h.d.fr.wf q5 fun g hg => hg, h.ne, h.ge⟩, q4, q5⟩
theorem Oc.look1 (h : Oc H0 tg H b S m1 m2 lv L hs) (a : Int) : rsem (.look .int (.bool false) false) [.map (some m1), .int .i64 a] H = some (.bool (decide (a ∈ L))) := by
  obtain ⟨ks, k1, k2⟩ := h.l1
  rw [k1.look]
  simp [k2]
end
theorem take_mem {L : List Int} {j : Nat} (hj : j < L.length) (c : Int) : c ∈ L.take (j + 1) ↔ c = nth L (j : Int) ∨ c ∈ L.take j := by
  rw [take_nth hj]; simp [or_comm]
theorem c342 (D : D342 T) {H0 H : AHeap} {tg : Tags} {b : Nat} {S : Hp} {Q : Rp} {A : Int} (d : Uno H0 tg H b S) (hB : Both A S Q) (hd : Dry Q) (hN : Noted Q) (hn : Q.notes = []) :
    Calls T 342 [.ptr (some (b, 0))] H fun r K => r = .bool true ∧ ∃ tg', Uno H0 tg' K b S := by
  refine Calls.fn D.pr D.fn ?_
  have g := graph hB hd
  obtain ⟨g1, g2, g3, g4⟩ := both_graph hB g
  have hlen100 := g1.len
  obtain ⟨w1, w2, w3⟩ := d.fr.wf.newMap
  have d1 := d.free ⟨w1, w3 _⟩
  have ms1 : Ms tg H.newMap H.next [] := ⟨w2, d.ok _ (Nat.le_refl _)⟩
  have hm1 : H0.next ≤ H.next := d.fr.next
  have hm1' := w2.lt w1
  obtain ⟨X0, hX0⟩ : ∃ X, H.newMap = X := ⟨_, rfl⟩
  obtain ⟨m1, hm⟩ : ∃ m, H.next = m := ⟨_, rfl⟩
  rw [hX0] at d1 ms1 hm1' w1
  rw [hm] at ms1 hm1 hm1'
  simp [ir342, hX0, hm]
  refine WC.of (c334 D.d334 d1.fr.wf d1.ok d1.hp g1 g2 g3 g4) ?_
  rintro lv K ⟨tg1, u1, h1, bs, ls, led, lost, fl⟩
  have d2 := d1.up u1 h1
  replace ms1 := ms1.up w1 u1
  have fx := fl.x
  have hpred := lost_pred hB hd hN hn led lost
  have hLl := numsTo_len ls ls.length
  have hlsS : ls.length = S.cells.length := lost.1.trans led.1
  have hLin : ∀ i ∈ numsTo ls ls.length, 0 ≤ i ∧ i < S.cells.length := fun i hi => by
    obtain ⟨a, b, _⟩ := mem_numsTo.1 hi
    exact ⟨a, by omega⟩
  obtain ⟨L, hL⟩ : ∃ L, numsTo ls ls.length = L := ⟨_, rfl⟩
  rw [hL] at fx hpred hLl hLin
  have hL100 : L.length ≤ 100 := by omega
  simp
  -- the lost ones go into a map
  refine W_loop (fun (z : Nat) e X => e 0 = .ptr (some (b, 0)) ∧ e 3 = .map (some m1) ∧ e 4 = lv ∧ ∃ j : Nat, z + j = L.length ∧ e 5 = .int .i64 j ∧ Uno H0 tg1 X b S ∧ FreeX tg1 (fun g => g < X0.next) X lv L ∧ ∃ ks, Ms tg1 X m1 ks ∧ ∀ c, c ∈ ks ↔ c ∈ L.take j) id L.length ?_ ?_
  · exact ⟨by simp, by simp, by simp, 0, by simp, by simp, d2, fx, [], ms1, by simp⟩
  · rintro z e X ⟨x0, x3, x4, j, hj, x5, d, fx, ks, ms, hks⟩
    simp [x0, x3, x4, x5, fx.sl.len]
    refine WB.dec ?_ ?_
    · intro hlt
      have ia := fx.sl.ia (k := .i64) (i := (j : Int)) (by omega) (by omega)
      have ld := fx.sl.ld (i := (j : Int)) (by omega) (by omega)
      obtain ⟨Y, ks', q1, q2, q3, q4, q5⟩ := ms.put d.fr.wf (nth L (j : Int))
      have no := ms.no
      simp [x0, x3, x4, x5, ia, ld, encI, q1]
      refine ⟨z - 1, by omega, j + 1, by omega, by rw [wrap64 (by omega) (by omega)]; simp, d.step q2 hm1 (q5.mono fun g hg => by subst hg; exact ⟨Nat.le_refl _, no⟩), fx.step d.fr.wf q5 fun g hg => by omega, ks', q3, fun c => ?_⟩
      rw [q4, hks, take_mem (by omega)]
    · intro hlt
      have hjL : j = L.length := by omega
      subst hjL
      rw [List.take_length] at hks
      obtain ⟨w4, w5, w6⟩ := d.fr.wf.newMap
      have dd := d.free ⟨w4, w6 _⟩
      have msA := ms.free d.fr.wf ⟨w4, w6 _⟩
      have msB : Ms tg1 X.newMap X.next [] := ⟨w5, d.ok _ (Nat.le_refl _)⟩
      have fxB : FreeX tg1 (fun g => g = X.next) X.newMap lv L := ((fx.late d.fr.wf).mono fun g hg => by subst hg; exact .inr (Nat.le_refl _)).step d.fr.wf (w6 (fun g => g = X.next)) fun g hg => hg
      have hmm := ms.mp.lt d.fr.wf
      have hge : H0.next ≤ X.next := d.fr.next
      have hm2' := w5.lt w4
      obtain ⟨X1, hX1⟩ : ∃ Y, X.newMap = Y := ⟨_, rfl⟩
      obtain ⟨m2, hm2⟩ : ∃ m, X.next = m := ⟨_, rfl⟩
      rw [hX1] at dd msA msB fxB hm2' w4
      rw [hm2] at msB fxB hmm hge hm2'
      have oc : Oc H0 tg1 X1 b S m1 m2 lv L [] := ⟨dd, ⟨ks, msA, hks⟩, msB, fxB, by omega, hge⟩
      simp [hX1, hm2, x0, x3, x4]
      refine WC.of (c337 D.d337 oc.d.fr.wf oc.d.ok oc.d.hp g1 g2) ?_
      rintro cv K2 ⟨tg2, u2, h2, fc⟩
      replace oc := oc.up u2 h2
      have hcl := cyc_len (lm S.cells) S.cells.length (fun _ => 0) S.cells.length
      have hcm := cyc_mem (lm S.cells) S.cells.length (fun _ => 0) S.cells.length
      obtain ⟨Z, hZ⟩ : ∃ Z, (cycGo (lm S.cells) S.cells.length (fun _ => 0) S.cells.length).2.map ints = Z := ⟨_, rfl⟩
      have hZl : Z.length ≤ 100 := by rw [← hZ, List.length_map]; omega
      have hZm : ∀ x ∈ Z, x.length ≤ 100 := by
        intro x hx
        rw [← hZ] at hx
        obtain ⟨y, hy, rfl⟩ := List.mem_map.1 hx
        rw [ints_len]
        have := hcm y hy
        omega
      have hbase : ∀ i ∈ L, (∃ c ∈ strongs (nth S.cells i).fs, Reach S.cells c i) → ∃ x ∈ Z, i ∈ x := by
        intro i hi hc
        obtain ⟨i0, i1⟩ := hLin i hi
        have e : ((i.toNat : Nat) : Int) = i := by omega
        obtain ⟨x, hx, hix⟩ := cyc_all (lm S.cells) (n := S.cells.length) (i := i.toNat) (by omega) (by rw [lm_iff, e]; exact hc)
        refine ⟨ints x, by rw [← hZ]; exact List.mem_map_of_mem hx, ?_⟩
        unfold ints
        exact List.mem_map.2 ⟨i.toNat, hix, e⟩
      rw [hZ] at fc
      replace fc : FreeL tg2 (fun g => g < X1.next) K2 cv Z := fc
      simp [x0, x3, x4]
      -- the lost ones on cycles are held
      refine W_loop (fun (z : Nat) e X => e 0 = .ptr (some (b, 0)) ∧ e 3 = .map (some m1) ∧ e 4 = lv ∧ e 6 = .map (some m2) ∧ e 7 = cv ∧ ∃ j : Nat, z + j = Z.length ∧ e 8 = .int .i64 j ∧ FreeL tg2 (fun g => g < X1.next) X cv Z ∧ ∃ hs, Oc H0 tg2 X b S m1 m2 lv L hs ∧ ∀ q : Nat, q < j → ∀ c ∈ nth Z (q : Int), c ∈ L → c ∈ hs) id Z.length ?_ ?_
      · exact ⟨by simp [x0], by simp [x3], by simp [x4], by simp, by simp, 0, by simp, by simp, fc, [], oc, fun q hq => by omega⟩
      · rintro z e X ⟨x0, x3, x4, x6, x7, j, hj, x8, fc, hs, oc, hin⟩
        simp [x0, x3, x4, x6, x7, x8, fc.len]
        refine WB.dec ?_ ?_
        · intro hlt
          have hjZ : j < Z.length := by omega
          obtain ⟨l, hl⟩ : ∃ l, nth Z (j : Int) = l := ⟨_, rfl⟩
          have hll : l.length ≤ 100 := by rw [← hl]; exact hZm _ (nth_mem (by omega) (by omega))
          simp [x0, x3, x4, x6, x7, x8]
          refine W_loop (fun (y : Nat) e X => e 0 = .ptr (some (b, 0)) ∧ e 3 = .map (some m1) ∧ e 4 = lv ∧ e 6 = .map (some m2) ∧ e 7 = cv ∧ e 8 = .int .i64 j ∧ ∃ i : Nat, y + i = l.length ∧ e 9 = .int .i64 i ∧ FreeL tg2 (fun g => g < X1.next) X cv Z ∧ ∃ hs, Oc H0 tg2 X b S m1 m2 lv L hs ∧ (∀ q : Nat, q < j → ∀ c ∈ nth Z (q : Int), c ∈ L → c ∈ hs) ∧ ∀ c ∈ l.take i, c ∈ L → c ∈ hs) id l.length ?_ ?_
          · exact ⟨by simp [x0], by simp [x3], by simp [x4], by simp [x6], by simp [x7], by simp [x8], 0, by simp, by simp, fc, hs, oc, hin, by simp⟩
          · rintro y e X ⟨x0, x3, x4, x6, x7, x8, i, hi, x9, fc, hs, oc, hin, htk⟩
            obtain ⟨u, a1, a2, a3⟩ := fc.get (i := j) hjZ
            rw [hl] at a3
            simp [x0, x3, x4, x6, x7, x8, x9, a1, a2, a3.len]
            refine WB.dec ?_ ?_
            · intro hlt
              have ia := a3.ia (k := .i64) (i := (i : Int)) (by omega) (by omega)
              have ld := a3.ld (i := (i : Int)) (by omega) (by omega)
              have tm := take_mem (L := l) (j := i) (by omega)
              by_cases hc : nth l (i : Int) ∈ L
              · obtain ⟨Y, hs', q1, q2, q3, q4⟩ := oc.put (nth l (i : Int))
                have fc' := fc.keeps oc.d.fr.wf q4 fun g hg => by subst hg; exact hm2'
                simp [x0, x3, x4, x6, x7, x8, x9, a1, a2, ia, ld, encI, oc.look1, hc, q1]
                refine ⟨y - 1, by omega, i + 1, by omega, by rw [wrap64 (by omega) (by omega)]; simp, fc', hs', q2, fun q hq c hc hcL => (q3 c).2 (.inr (hin q hq c hc hcL)), fun c hc hcL => ?_⟩
                rcases (tm c).1 hc with e | e
                · exact (q3 c).2 (.inl e)
                · exact (q3 c).2 (.inr (htk c e hcL))
              · simp [x0, x3, x4, x6, x7, x8, x9, a1, a2, ia, ld, encI, oc.look1, hc]
                refine ⟨y - 1, by omega, i + 1, by omega, by rw [wrap64 (by omega) (by omega)]; simp, fc, hs, oc, hin, fun c hc2 hcL => ?_⟩
                rcases (tm c).1 hc2 with e | e
                · subst e; exact absurd hcL hc
                · exact htk c e hcL
            · intro hlt
              have hil : i = l.length := by omega
              subst hil
              rw [List.take_length] at htk
              simp [x0, x3, x4, x6, x7, x8, x9]
              refine ⟨z - 1, by omega, j + 1, by omega, by rw [wrap64 (by omega) (by omega)]; simp, fc, hs, oc, fun q hq c hc hcL => ?_⟩
              by_cases e : q = j
              · subst e; rw [hl] at hc; exact htk c hc hcL
              · exact hin q (by omega) c hc hcL
        · intro hlt
          have hjZ : j = Z.length := by omega
          subst hjZ
          obtain ⟨base, hbs⟩ : ∃ base : Int → Prop, base = fun i => ∃ x ∈ Z, i ∈ x := ⟨_, rfl⟩
          have near0 : ∀ i, Near S.cells L base 0 i → i ∈ hs := by
            rintro i ⟨h1, h2⟩
            rw [hbs] at h2
            obtain ⟨x, hx, hix⟩ := h2
            obtain ⟨q, hq, rfl⟩ := mem_nth hx
            exact hin q hq i hix h1
          have final : ∀ i ∈ L, Near S.cells L base L.length i := fun i hi => all_near hpred (by rw [hbs]; exact hbase) hi
          simp [x0, x3, x4, x6]
          refine W_loop (fun (z : Nat) e X => e 0 = .ptr (some (b, 0)) ∧ e 4 = lv ∧ e 6 = .map (some m2) ∧ ∃ r : Nat, z + r = L.length ∧ e 10 = .int .i64 r ∧ ∃ tg hs, Oc H0 tg X b S m1 m2 lv L hs ∧ ∀ i, Near S.cells L base r i → i ∈ hs) id L.length ?_ ?_
          · exact ⟨by simp [x0], by simp [x4], by simp [x6], 0, by simp, by simp, tg2, hs, oc, near0⟩
          · rintro z e X ⟨x0, x4, x6, r, hr, x10, tg3, hs, oc, hnear⟩
            simp [x0, x4, x6, x10, oc.fl.sl.len]
            refine WB.dec ?_ ?_
            · intro hlt
              simp [x0, x4, x6, x10]
              refine W_loop (fun (y : Nat) e X => e 0 = .ptr (some (b, 0)) ∧ e 4 = lv ∧ e 6 = .map (some m2) ∧ e 10 = .int .i64 r ∧ ∃ i : Nat, y + i = L.length ∧ e 11 = .int .i64 i ∧ ∃ tg hs, Oc H0 tg X b S m1 m2 lv L hs ∧ (∀ i, Near S.cells L base r i → i ∈ hs) ∧ ∀ q : Nat, q < i → Near S.cells L base r (nth L (q : Int)) → ∀ t ∈ strongs (nth S.cells (nth L (q : Int))).fs, t ∈ hs) id L.length ?_ ?_
              · exact ⟨by simp [x0], by simp [x4], by simp [x6], by simp [x10], 0, by simp, by simp, tg3, hs, oc, hnear, fun q hq => by omega⟩
              · rintro y e X ⟨x0, x4, x6, x10, i, hi, x11, tg4, hs, oc, hnear, hin⟩
                simp [x0, x4, x6, x10, x11, oc.fl.sl.len]
                refine WB.dec ?_ ?_
                · intro hlt
                  have hiL : i < L.length := by omega
                  have ia := oc.fl.sl.ia (k := .i64) (i := (i : Int)) (by omega) (by omega)
                  have ld := oc.fl.sl.ld (i := (i : Int)) (by omega) (by omega)
                  obtain ⟨a, ha⟩ : ∃ a, nth L (i : Int) = a := ⟨_, rfl⟩
                  rw [ha] at ld
                  obtain ⟨a0, aS⟩ := hLin a (by rw [← ha]; exact nth_mem (by omega) (by omega))
                  have fin : ∀ (X : AHeap) tg hs, Oc H0 tg X b S m1 m2 lv L hs → (∀ i, Near S.cells L base r i → i ∈ hs) → (∀ q : Nat, q < i → Near S.cells L base r (nth L (q : Int)) → ∀ t ∈ strongs (nth S.cells (nth L (q : Int))).fs, t ∈ hs) → (Near S.cells L base r a → ∀ t ∈ strongs (nth S.cells a).fs, t ∈ hs) → ∃ j, j < y ∧ ∃ i', j + i' = L.length ∧ IntKind.i64.wrap ((i : Int) + 1) = (i' : Int) ∧ ∃ tg hs, Oc H0 tg X b S m1 m2 lv L hs ∧ (∀ i, Near S.cells L base r i → i ∈ hs) ∧ ∀ q : Nat, q < i' → Near S.cells L base r (nth L (q : Int)) → ∀ t ∈ strongs (nth S.cells (nth L (q : Int))).fs, t ∈ hs := by
                    intro X tg hs h1 h2 h3 h4
                    refine ⟨y - 1, by omega, i + 1, by omega, by rw [wrap64 (by omega) (by omega)]; simp, tg, hs, h1, h2, fun q hq => ?_⟩
                    by_cases e : q = i
                    · subst e; rw [ha]; exact h4
                    · exact h3 q (by omega)
                  by_cases hh : a ∈ hs
                  · simp [x0, x4, x6, x10, x11, ia, ld, encI, oc.l2.look, hh]
                    refine W_loop (fun (w : Nat) e X => e 0 = .ptr (some (b, 0)) ∧ e 4 = lv ∧ e 6 = .map (some m2) ∧ e 10 = .int .i64 r ∧ e 11 = .int .i64 i ∧ ∃ f : Nat, w + f = 8 ∧ e 12 = .int .i64 f ∧ ∃ tg hs, Oc H0 tg X b S m1 m2 lv L hs ∧ (∀ i, Near S.cells L base r i → i ∈ hs) ∧ (∀ q : Nat, q < i → Near S.cells L base r (nth L (q : Int)) → ∀ t ∈ strongs (nth S.cells (nth L (q : Int))).fs, t ∈ hs) ∧ ∀ t ∈ strongs ((nth S.cells a).fs.take f), t ∈ hs) id 8 ?_ ?_
                    · exact ⟨by simp [x0], by simp [x4], by simp [x6], by simp [x10], by simp [x11], 0, by simp, by simp, tg4, hs, oc, hnear, hin, by simp [strongs]⟩
                    · rintro w e X ⟨x0, x4, x6, x10, x11, f, hf, x12, tg5, hs, oc, hnear, hin, hst⟩
                      simp [x0, x4, x6, x10, x11, x12]
                      refine WB.dec ?_ ?_
                      · intro hlt
                        have ia := oc.fl.sl.ia (k := .i64) (i := (i : Int)) (by omega) (by omega)
                        have ld := oc.fl.sl.ld (i := (i : Int)) (by omega) (by omega)
                        rw [ha] at ld
                        simp [x0, x4, x6, x10, x11, x12, ia, ld, encI]
                        refine WC.of (p344 D.d344 oc.d.fr.wf oc.d.ok oc.d.hp hB) ?_
                        rintro r5 Y ⟨rfl, tg6, u6, h6⟩
                        replace oc := oc.up u6 h6
                        obtain ⟨G, hG⟩ : ∃ G, getR Q.hp a f = G := ⟨_, rfl⟩
                        rw [hG]
                        have fin2 : ∀ (X : AHeap) hs, Oc H0 tg6 X b S m1 m2 lv L hs → (∀ i, Near S.cells L base r i → i ∈ hs) → (∀ q : Nat, q < i → Near S.cells L base r (nth L (q : Int)) → ∀ t ∈ strongs (nth S.cells (nth L (q : Int))).fs, t ∈ hs) → (∀ t ∈ strongs ((nth S.cells a).fs.take f), t ∈ hs) → (G.2 = 0 ∧ G.1.is = true ∧ G.1.weak = false → G.1.to ∈ hs) → ∃ j, j < w ∧ ∃ f', j + f' = 8 ∧ IntKind.i64.wrap ((f : Int) + 1) = (f' : Int) ∧ ∃ tg hs, Oc H0 tg X b S m1 m2 lv L hs ∧ (∀ i, Near S.cells L base r i → i ∈ hs) ∧ (∀ q : Nat, q < i → Near S.cells L base r (nth L (q : Int)) → ∀ t ∈ strongs (nth S.cells (nth L (q : Int))).fs, t ∈ hs) ∧ ∀ t ∈ strongs ((nth S.cells a).fs.take f'), t ∈ hs := by
                          intro X hs h1 h2 h3 h4 h5
                          refine ⟨w - 1, by omega, f + 1, by omega, by rw [wrap64 (by omega) (by omega)]; simp, tg6, hs, h1, h2, h3, fun t ht => ?_⟩
                          by_cases hfl : f < (nth S.cells a).fs.length
                          · rw [strongs_take hfl] at ht
                            split at ht
                            · rename_i hcond
                              rcases List.mem_append.1 ht with q | q
                              · exact h4 t q
                              · rw [List.mem_singleton] at q
                                subst q
                                have he : (nth S.cells a).e = false := by
                                  cases h : (nth S.cells a).e with
                                  | false => rfl
                                  | true =>
                                    have := hd a a0 (by rw [← hB.sim.len]; exact aS) (by rw [← (hB.fs a).2]; exact h) (nth (nth S.cells a).fs (f : Int)) (by rw [← (hB.fs a).1]; exact nth_mem (by omega) (by omega))
                                    simp [this] at hcond
                                have hz : hasFieldR Q.hp a f = 0 := hasFieldR_ok a0 (by simp only [Rp.hp_cells]; rw [← hB.sim.len]; exact aS) (by simp only [Rp.hp_cells]; rw [← (hB.fs a).2]; exact he) (by omega) (by simp only [Rp.hp_cells]; rw [← (hB.fs a).1]; omega)
                                have hg : G = (nth (nth S.cells a).fs (f : Int), 0) := by
                                  rw [← hG]
                                  unfold getR
                                  rw [if_neg (by simp [hz])]
                                  simp only [Rp.hp_cells]
                                  rw [(hB.fs a).1]
                                rw [hg] at h5
                                simp at hcond
                                exact h5 ⟨rfl, hcond.1, hcond.2⟩
                            · exact h4 t ht
                          · rw [List.take_of_length_le (by omega)] at ht
                            rw [List.take_of_length_le (by omega)] at h4
                            exact h4 t ht
                        by_cases c : G.2 = 0 ∧ G.1.is = true ∧ G.1.weak = false
                        · obtain ⟨Y2, hs', q1, q2, q3, q4⟩ := oc.put G.1.to
                          simp [x0, x4, x6, x10, x11, x12, c.1, c.2.1, c.2.2, q1]
                          exact fin2 Y2 hs' q2 (fun i hi => (q3 i).2 (.inr (hnear i hi))) (fun q hq hn t ht => (q3 t).2 (.inr (hin q hq hn t ht))) (fun t ht => (q3 t).2 (.inr (hst t ht))) (fun _ => (q3 _).2 (.inl rfl))
                        · have hfin := fin2 Y hs oc hnear hin hst fun h => absurd h c
                          by_cases c1 : G.2 = 0
                          · cases c2 : G.1.is with
                            | false =>
                              simp [x0, x4, x6, x10, x11, x12, c1, c2]
                              exact hfin
                            | true =>
                              have c3 : G.1.weak = true := by
                                cases h : G.1.weak with
                                | true => rfl
                                | false => exact absurd ⟨c1, c2, h⟩ c
                              simp [x0, x4, x6, x10, x11, x12, c1, c2, c3]
                              exact hfin
                          · simp [x0, x4, x6, x10, x11, x12, c1]
                            exact hfin
                      · intro hlt
                        have hf8 : f = 8 := by omega
                        subst hf8
                        have hfl := g1.fl _ (nth_mem a0 aS)
                        rw [List.take_of_length_le hfl] at hst
                        simp [x0, x4, x6, x10, x11]
                        exact fin X tg5 hs oc hnear hin fun _ => hst
                  · simp [x0, x4, x6, x10, x11, ia, ld, encI, oc.l2.look, hh]
                    exact fin X tg4 hs oc hnear hin fun hna => absurd (hnear a hna) hh
                · intro hlt
                  have hiL : i = L.length := by omega
                  subst hiL
                  simp [x0, x4, x6, x10, x11]
                  refine ⟨z - 1, by omega, r + 1, by omega, by rw [wrap64 (by omega) (by omega)]; simp, tg4, hs, oc, fun i hi => ?_⟩
                  rcases hi with hi | ⟨j, hj, hjn, hij⟩
                  · exact hnear i hi
                  · obtain ⟨q, hq, rfl⟩ := mem_nth hj
                    exact hin q hq hjn i hij
            · intro hlt
              have hrL : r = L.length := by omega
              subst hrL
              have all : ∀ i ∈ L, i ∈ hs := fun i hi => hnear i (final i hi)
              simp [x0, x4, x6]
              refine W_loop (fun (y : Nat) e Y => Y = X ∧ e 4 = lv ∧ e 6 = .map (some m2) ∧ ∃ i : Nat, y + i = L.length ∧ e 17 = .int .i64 i) id L.length ?_ ?_
              · exact ⟨rfl, by simp [x4], by simp [x6], 0, by simp, by simp⟩
              · rintro y e Y ⟨rfl, x4, x6, i, hi, x17⟩
                simp [x4, x6, x17, oc.fl.sl.len]
                refine WB.dec ?_ ?_
                · intro hlt
                  have ia := oc.fl.sl.ia (k := .i64) (i := (i : Int)) (by omega) (by omega)
                  have ld := oc.fl.sl.ld (i := (i : Int)) (by omega) (by omega)
                  have hm := all _ (nth_mem (l := L) (i := (i : Int)) (by omega) (by omega))
                  simp [x4, x6, x17, ia, ld, encI, oc.l2.look, hm]
                  exact ⟨y - 1, by omega, i + 1, by omega, by rw [wrap64 (by omega) (by omega)]; simp⟩
                · intro hlt
                  simp
                  exact ⟨tg3, oc.d⟩
end Go.Am
