/- Contract: Same of the reference. -/
import Derived.Test.YtpdedphkjkhddaaAmHeapKt
set_option linter.unusedVariables false
set_option linter.unusedSimpArgs false
namespace Go.Am
variable {T : Tab}
theorem c331 (D : D331 T) {k1 k2 : Nat} {tg : Tags} {H : AHeap} {b1 b2 : Nat} {Q1 Q2 : Rp} (hw : WF H) (hk : TagOk tg H) (h1 : RpR k1 tg H b1 Q1) (h2 : RpR k2 tg H b2 Q2) (l1 : Q1.cells.length ≤ 100) (f1 : ∀ c ∈ Q1.cells, c.fs.length ≤ 8) (n1 : Q1.notes.length < 2 ^ 39) :
    Calls T 331 [.ptr (some (b1, 0)), .ptr (some (b2, 0))] H fun r K => ∃ t, Fr H K ∧ r = .bool t ∧ (t = true ↔ Q1.cells = Q2.cells ∧ Q1.notes = Q2.notes) := by
  refine Calls.fn D.pr D.fn ?_
  obtain ⟨fb1, cv1, nv1, fc1, fn1, xs1, ff1, i1⟩ := h1
  obtain ⟨fb2, cv2, nv2, fc2, fn2, xs2, ff2, i2⟩ := h2
  have lc1 := i1.lenC
  have lc2 := i2.lenC
  have ln1 := i1.ns.1.len
  have ln2 := i2.ns.1.len
  by_cases hc : Q1.cells.length = Q2.cells.length
  · by_cases hn : Q1.notes.length = Q2.notes.length
    · have hci : (Q1.cells.length : Int) = Q2.cells.length := by omega
      have hni : (Q1.notes.length : Int) = Q2.notes.length := by omega
      simp [ir331, i1.ldc, i2.ldc, lc1, lc2, i1.ldn, i2.ldn, ln1, ln2, hci, hni]
      refine W_loop (fun (z : Nat) e K => K = H ∧ e 0 = .ptr (some (b1, 0)) ∧ e 1 = .ptr (some (b2, 0)) ∧ ∃ j : Nat, z + j = Q1.notes.length ∧ e 5 = .int .i64 j ∧ Q1.notes.take j = Q2.notes.take j) id Q1.notes.length ?_ ?_
      · exact ⟨rfl, by simp, by simp, 0, by simp, by simp, by simp⟩
      · rintro z e K ⟨rfl, x0, x1, j, hj, x5, ht⟩
        simp [x0, x1, x5, i1.ldn, ln1]
        refine WB.dec ?_ ?_
        · intro hlt
          have ia1 := i1.ns.1.ia (k := .i64) (i := (j : Int)) (by omega) (by omega)
          have ia2 := i2.ns.1.ia (k := .i64) (i := (j : Int)) (by omega) (by omega)
          have ld1 := i1.ns.1.ld (i := (j : Int)) (by omega) (by omega)
          have ld2 := i2.ns.1.ld (i := (j : Int)) (by omega) (by omega)
          by_cases he : nth Q1.notes (j : Int) = nth Q2.notes (j : Int)
          · simp [x0, x1, x5, i1.ldn, i2.ldn, ia1, ia2, ld1, ld2, encI, he]
            refine ⟨z - 1, by omega, j + 1, by omega, by rw [wrap64 (by omega) (by omega)]; simp, ?_⟩
            rw [take_nth (by omega), take_nth (by omega), ht, he]
          · simp [x0, x1, x5, i1.ldn, i2.ldn, ia1, ia2, ld1, ld2, encI, he]
            exact ⟨.refl hw, fun _ e => he (by rw [e])⟩
        · intro hlt
          have hjn : Q1.notes.length ≤ j := by omega
          rw [List.take_of_length_le hjn, List.take_of_length_le (by omega)] at ht
          simp [x0, x1]
          refine W_loop (fun (z : Nat) e X => e 0 = .ptr (some (b1, 0)) ∧ e 1 = .ptr (some (b2, 0)) ∧ Fr K X ∧ ∃ j : Nat, z + j = Q1.cells.length ∧ e 6 = .int .i64 j ∧ Q1.cells.take j = Q2.cells.take j) id Q1.cells.length ?_ ?_
          · exact ⟨by simp [x0], by simp [x1], .refl hw, 0, by simp, by simp, by simp⟩
          · rintro z e X ⟨x0, x1, fX, j, hj, x6, htc⟩
            have j1 := i1.fr hw fX
            have j2 := i2.fr hw fX
            have kX : TagOk tg X := fun g hg => hk g (Nat.le_trans fX.next hg)
            have lcX := j1.lenC
            simp [x0, x1, x6, j1.ldc, lcX]
            refine WB.dec ?_ ?_
            · intro hlt
              have jS1 : (j : Int) < Q1.cells.length := by omega
              have jS2 : (j : Int) < Q2.cells.length := by omega
              obtain ⟨bo, oo, e1, e2, e3, e4, e5, e6, e7, _⟩ := j1.cell fX.wf kX (i := (j : Int)) (by omega) jS1
              obtain ⟨bp, op, g1, g2, g3, g4, g5, g6, g7, _⟩ := j2.cell fX.wf kX (i := (j : Int)) (by omega) jS2
              have ia1 := j1.ia (kk := .i64) (i := (j : Int)) (by omega) jS1
              have ia2 := j2.ia (kk := .i64) (i := (j : Int)) (by omega) jS2
              have s1 := j1.fld (i := (j : Int)) (by omega) jS1
              have s2 := j2.fld (i := (j : Int)) (by omega) jS2
              have hf8 := f1 _ (nth_mem (l := Q1.cells) (i := (j : Int)) (by omega) jS1)
              obtain ⟨a, ha⟩ : ∃ a, nth Q1.cells (j : Int) = a := ⟨_, rfl⟩
              obtain ⟨c, hcc⟩ : ∃ c, nth Q2.cells (j : Int) = c := ⟨_, rfl⟩
              obtain ⟨u, hu⟩ : ∃ u, (nth xs1 (j : Int)).1 = u := ⟨_, rfl⟩
              obtain ⟨v, hv⟩ : ∃ v, (nth xs2 (j : Int)).1 = v := ⟨_, rfl⟩
              rw [ha] at e7 s1 hf8
              rw [hcc] at g7 s2
              rw [hu] at e7 s1
              rw [hv] at g7 s2
              have e7' : rsem (.ld 5 true) [.ptr (some (bo, oo))] X = some (.agg [u, .bool a.w, .bool a.t, .bool a.e, .int .i64 a.n]) := e7
              have g7' : rsem (.ld 5 true) [.ptr (some (bp, op))] X = some (.agg [v, .bool c.w, .bool c.t, .bool c.e, .int .i64 c.n]) := g7
              have huc := s1.form.1
              have hvc := s2.form.1
              -- two boxes
              have fr1 := fX.wf.fr_new (cs := [AV.slc none 0 0 none, .bool false, .bool false, .bool false, .int .i64 0])
              have bx1 := Box.new (H := X) (cs := [AV.slc none 0 0 none, .bool false, .bool false, .bool false, .int .i64 0])
              obtain ⟨X1, hX1⟩ : ∃ Y, X.new [AV.slc none 0 0 none, .bool false, .bool false, .bool false, .int .i64 0] = Y := ⟨_, rfl⟩
              have nX1 : X1.next = X.next + 1 := by rw [← hX1]; rfl
              rw [hX1] at fr1 bx1
              have fr2 := fr1.wf.fr_new (cs := [AV.slc none 0 0 none, .bool false, .bool false, .bool false, .int .i64 0])
              have bx2 := Box.new (H := X1) (cs := [AV.slc none 0 0 none, .bool false, .bool false, .bool false, .int .i64 0])
              obtain ⟨X2, hX2⟩ : ∃ Y, X1.new [AV.slc none 0 0 none, .bool false, .bool false, .bool false, .int .i64 0] = Y := ⟨_, rfl⟩
              rw [hX2] at fr2 bx2
              have bx1 := bx1.keeps fr1.wf fr2.keeps (by omega)
              obtain ⟨X3, p1, p2, p3, p4, p5⟩ := bx1.stA (n := 5) fr2.wf (ds := [u, .bool a.w, .bool a.t, .bool a.e, .int .i64 a.n]) rfl rfl (by simp only [List.all_cons, List.all_nil, huc]; rfl)
              have bx2 := bx2.keeps fr2.wf p4 (by omega)
              obtain ⟨X4, q1, q2, q3, q4, q5⟩ := bx2.stA (n := 5) p2 (ds := [v, .bool c.w, .bool c.t, .bool c.e, .int .i64 c.n]) rfl rfl (by simp only [List.all_cons, List.all_nil, hvc]; rfl)
              have p3 := p3.keeps p2 q4 (by omega)
              have fX2 := fr1.trans fr2
              have fX4 : Fr X X4 := (fX2.step p2 p4 fun g hg => by omega).step q2 q4 fun g hg => by omega
              obtain ⟨b7, hb7⟩ : ∃ x, X.next = x := ⟨_, rfl⟩
              obtain ⟨b8, hb8⟩ : ∃ x, X1.next = x := ⟨_, rfl⟩
              rw [hb7] at p1 p3
              rw [hb8] at q1 q3
              have l0 : rsem (.ld 1 false) [.ptr (some (b7, 0))] X4 = some u := by simp [rsem, AHeap.ld, p3.row]
              have l1 : rsem (.ld 1 false) [.ptr (some (b7, 1))] X4 = some (.bool a.w) := by simp [rsem, AHeap.ld, p3.row]
              have l2 : rsem (.ld 1 false) [.ptr (some (b7, 2))] X4 = some (.bool a.t) := by simp [rsem, AHeap.ld, p3.row]
              have l3 : rsem (.ld 1 false) [.ptr (some (b7, 3))] X4 = some (.bool a.e) := by simp [rsem, AHeap.ld, p3.row]
              have l4 : rsem (.ld 1 false) [.ptr (some (b7, 4))] X4 = some (.int .i64 a.n) := by simp [rsem, AHeap.ld, p3.row]
              have m0 : rsem (.ld 1 false) [.ptr (some (b8, 0))] X4 = some v := by simp [rsem, AHeap.ld, q3.row]
              have m1 : rsem (.ld 1 false) [.ptr (some (b8, 1))] X4 = some (.bool c.w) := by simp [rsem, AHeap.ld, q3.row]
              have m2 : rsem (.ld 1 false) [.ptr (some (b8, 2))] X4 = some (.bool c.t) := by simp [rsem, AHeap.ld, q3.row]
              have m3 : rsem (.ld 1 false) [.ptr (some (b8, 3))] X4 = some (.bool c.e) := by simp [rsem, AHeap.ld, q3.row]
              have m4 : rsem (.ld 1 false) [.ptr (some (b8, 4))] X4 = some (.int .i64 c.n) := by simp [rsem, AHeap.ld, q3.row]
              have s1 := s1.fr fX.wf fX4
              have s2 := s2.fr fX.wf fX4
              have sl1 := s1.len
              have sl2 := s2.len
              have ne_ : a ≠ c → ¬(Q1.cells = Q2.cells ∧ Q1.notes = Q2.notes) := by
                rintro hac ⟨e, _⟩
                apply hac
                rw [← ha, ← hcc, e]
              have rd : ∀ Y, Fr X Y → rsem (.ld 1 false) [.ptr (some (b1, 0))] Y = some cv1 ∧ rsem (.ld 1 false) [.ptr (some (b2, 0))] Y = some cv2 ∧ rsem (.ld 5 true) [.ptr (some (bo, oo))] Y = some (.agg [u, .bool a.w, .bool a.t, .bool a.e, .int .i64 a.n]) ∧ rsem (.ld 5 true) [.ptr (some (bp, op))] Y = some (.agg [v, .bool c.w, .bool c.t, .bool c.e, .int .i64 c.n]) := by
                intro Y fY
                have y1 := j1.fr fX.wf fY
                have y2 := j2.fr fX.wf fY
                have kY : TagOk tg Y := fun g hg => kX g (Nat.le_trans fY.next hg)
                obtain ⟨bo', oo', r1, _, _, _, _, _, r7, _⟩ := y1.cell fY.wf kY (i := (j : Int)) (by omega) jS1
                obtain ⟨bp', op', t1, _, _, _, _, _, t7, _⟩ := y2.cell fY.wf kY (i := (j : Int)) (by omega) jS2
                rw [e1] at r1
                rw [g1] at t1
                simp at r1 t1
                obtain ⟨rfl, rfl⟩ := r1
                obtain ⟨rfl, rfl⟩ := t1
                rw [ha, hu] at r7
                rw [hcc, hv] at t7
                exact ⟨y1.ldc, y2.ldc, r7, t7⟩
              obtain ⟨ra1, ra2, ra3, ra4⟩ := rd X1 fr1
              obtain ⟨rb1, rb2, rb3, rb4⟩ := rd X2 fX2
              obtain ⟨rc1, rc2, rc3, rc4⟩ := rd X3 (fX2.step p2 p4 fun g hg => by omega)
              simp [x0, x1, x6]
              refine W_floats ?_
              simp [x0, x1, x6, j1.ldc, j2.ldc, ia1, ia2, e1, g1, e7', g7', AV.cells, hX1, hX2, hb7, hb8]
              refine ⟨⟨rfl, rfl, rfl⟩, ?_⟩
              simp [p1, q1]
              simp [floatOk, wanted, AV.same_refl, j1.ldc, j2.ldc, e7', g7', ra1, ra2, ra3, ra4, rb1, rb2, rb3, rb4, rc1, rc2, rc3, rc4, x0, x1, x6]
              have fin : a = c → ∃ z', z' < z ∧ Fr K X4 ∧ ∃ j', z' + j' = Q1.cells.length ∧ IntKind.i64.wrap ((j : Int) + 1) = (j' : Int) ∧ Q1.cells.take j' = Q2.cells.take j' := fun hac =>
                ⟨z - 1, by omega, fX.trans fX4, j + 1, by omega, by rw [wrap64 (by omega) (by omega)]; simp, by rw [take_nth (by omega), take_nth (by omega), htc, ha, hcc, hac]⟩
              have bad : a ≠ c → ∃ t, Fr K X4 ∧ AV.bool false = AV.bool t ∧ (t = true ↔ Q1.cells = Q2.cells ∧ Q1.notes = Q2.notes) := fun hac =>
                ⟨false, fX.trans fX4, rfl, by simpa using ne_ hac⟩
              by_cases k1 : a.fs.length = c.fs.length
              · have k1' : (a.fs.length : Int) = c.fs.length := by omega
                by_cases k2 : a.w = c.w
                · by_cases k3 : a.t = c.t
                  · by_cases k4 : a.e = c.e
                    · by_cases k5 : a.n = c.n
                      · simp [l0, l1, l2, l3, l4, m0, m1, m2, m3, m4, sl1, sl2, k1', k2, k3, k4, k5, x0, x1, x6]
                        refine W_loop (fun (y : Nat) e Y => Y = X4 ∧ e 0 = .ptr (some (b1, 0)) ∧ e 1 = .ptr (some (b2, 0)) ∧ e 6 = .int .i64 j ∧ e 7 = .ptr (some (b7, 0)) ∧ e 8 = .ptr (some (b8, 0)) ∧ ∃ q : Nat, y + q = a.fs.length ∧ e 9 = .int .i64 q ∧ a.fs.take q = c.fs.take q) id a.fs.length ?_ ?_
                        · exact ⟨rfl, by simp [x0], by simp [x1], by simp [x6], by simp, by simp, 0, by simp, by simp, by simp⟩
                        · rintro y e Y ⟨rfl, x0, x1, x6, x7, x8, q, hq, x9, hft⟩
                          simp [x0, x1, x6, x7, x8, x9, l0, sl1]
                          refine WB.dec ?_ ?_
                          · intro hlt
                            have ja := s1.ia (k := .i64) (i := (q : Int)) (by omega) (by omega)
                            have jc := s2.ia (k := .i64) (i := (q : Int)) (by omega) (by omega)
                            have da := s1.ldA (i := (q : Int)) (by omega) (by omega) (cs := [.int .i64 (nth a.fs (q : Int)).to, .bool (nth a.fs (q : Int)).is, .bool (nth a.fs (q : Int)).weak]) rfl
                            have dc := s2.ldA (i := (q : Int)) (by omega) (by omega) (cs := [.int .i64 (nth c.fs (q : Int)).to, .bool (nth c.fs (q : Int)).is, .bool (nth c.fs (q : Int)).weak]) rfl
                            by_cases he : nth a.fs (q : Int) = nth c.fs (q : Int)
                            · simp [x0, x1, x6, x7, x8, x9, l0, m0, ja, jc, da, dc, eqG, he]
                              refine ⟨y - 1, by omega, q + 1, by omega, by rw [wrap64 (by omega) (by omega)]; simp, ?_⟩
                              rw [take_nth (by omega), take_nth (by omega), hft, he]
                            · have he' : decide (nth a.fs (q : Int) = nth c.fs (q : Int)) = false := by simpa using he
                              simp [x0, x1, x6, x7, x8, x9, l0, m0, ja, jc, da, dc, eqG, he]
                              have := bad fun e => he (by rw [e])
                              simpa using this
                          · intro hlt
                            have hqn : a.fs.length ≤ q := by omega
                            rw [List.take_of_length_le hqn, List.take_of_length_le (by omega)] at hft
                            have hac : a = c := by
                              obtain ⟨a1, a2, a3, a4, a5⟩ := a
                              obtain ⟨c1, c2, c3, c4, c5⟩ := c
                              simp only at hft k2 k3 k4 k5
                              rw [hft, k2, k3, k4, k5]
                            simp [x0, x1, x6]
                            exact fin hac
                      · simp [l0, l1, l2, l3, l4, m0, m1, m2, m3, m4, sl1, sl2, k1', k2, k3, k4, k5, x0, x1, x6]
                        simpa using bad fun e => k5 (by rw [e])
                    · have k4' : (a.e == c.e) = false := by simpa using k4
                      simp [l0, l1, l2, l3, l4, m0, m1, m2, m3, m4, sl1, sl2, k1', k2, k3, k4, k4', x0, x1, x6]
                      simpa using bad fun e => k4 (by rw [e])
                  · have k3' : (a.t == c.t) = false := by simpa using k3
                    simp [l0, l1, l2, l3, l4, m0, m1, m2, m3, m4, sl1, sl2, k1', k2, k3, k3', x0, x1, x6]
                    simpa using bad fun e => k3 (by rw [e])
                · have k2' : (a.w == c.w) = false := by simpa using k2
                  simp [l0, l1, l2, l3, l4, m0, m1, m2, m3, m4, sl1, sl2, k1', k2, k2', x0, x1, x6]
                  simpa using bad fun e => k2 (by rw [e])
              · have k1' : ¬(a.fs.length : Int) = c.fs.length := by omega
                simp [l0, l1, l2, l3, l4, m0, m1, m2, m3, m4, sl1, sl2, k1', x0, x1, x6]
                simpa using bad fun e => k1 (by rw [e])
            · intro hlt
              have hjn : Q1.cells.length ≤ j := by omega
              rw [List.take_of_length_le hjn, List.take_of_length_le (by omega)] at htc
              simp
              exact ⟨fX, htc, ht⟩
    · have hci : (Q1.cells.length : Int) = Q2.cells.length := by omega
      have hni : ¬(Q1.notes.length : Int) = Q2.notes.length := by omega
      simp [ir331, i1.ldc, i2.ldc, lc1, lc2, i1.ldn, i2.ldn, ln1, ln2, hci, hni]
      exact ⟨.refl hw, fun _ e => hn (by rw [e])⟩
  · have hci : ¬(Q1.cells.length : Int) = Q2.cells.length := by omega
    simp [ir331, i1.ldc, i2.ldc, lc1, lc2, i1.ldn, i2.ldn, ln1, ln2, hci]
    exact ⟨.refl hw, fun e => absurd (by rw [e]) hc⟩
end Go.Am
