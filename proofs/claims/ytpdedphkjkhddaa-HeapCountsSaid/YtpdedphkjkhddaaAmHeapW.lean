/- The law HeapCounts. Printed by mkcounts.py. -/
import Derived.Test.YtpdedphkjkhddaaAmHeapV
import Derived.Test.YtpdedphkjkhddaaAmHeapS
set_option linter.unusedVariables false
set_option linter.unusedSimpArgs false
namespace Go.Am
variable {T : Tab}

/-- The acts that leave the roots as they are. -/
theorem c326 (D : D326 T) {H0 H : AHeap} {tg : Tags} {b m : Nat} {S : Hp} {Q : Rp} {A : Int} {rs : List (Int × Int)} (d : Uno H0 tg H b S) (mx : Mx tg H m rs) (hB : Both A S Q) (hA : A ≤ 2 ^ 40) (hA1 : 1 ≤ A) (hp : phi Q < 2 ^ 29) (hd : Dry Q) {o x y z : Int} {s : List UInt8} (h3 : o ≠ 3) (h4 : o ≠ 4) (h5 : o ≠ 5) (h6 : o ≠ 6) :
    Calls T 326 [.ptr (some (b, 0)), .agg [.int .i64 o, .int .i64 x, .int .i64 y, .int .i64 z, .str s]] H fun r K => ∃ tg' S' Q', Uno H0 tg' K b S' ∧ Mx tg' K m rs ∧ Done A (phi Q) S' Q' ∧ Dry Q' ∧ ∀ a, nOf Q' a = nOf Q a := by
  refine Calls.fn D.pr D.fn ?_
  have d1 := d.free (d.fr.wf.fr_new (cs := [.int .i64 o, .int .i64 x, .int .i64 y, .int .i64 z, .str s]))
  have mx1 := mx.free d.fr.wf (d.fr.wf.fr_new (cs := [.int .i64 o, .int .i64 x, .int .i64 y, .int .i64 z, .str s]))
  have bx := Box.new (H := H) (cs := [.int .i64 o, .int .i64 x, .int .i64 y, .int .i64 z, .str s])
  obtain ⟨K, hK⟩ : ∃ K, H.new [.int .i64 o, .int .i64 x, .int .i64 y, .int .i64 z, .str s] = K := ⟨_, rfl⟩
  rw [hK] at bx d1 mx1
  have l0 : rsem (.ld 1 false) [.ptr (some (H.next, 0))] K = some (.int .i64 o) := by simp [rsem, AHeap.ld, bx.row]
  have l1 : rsem (.ld 1 false) [.ptr (some (H.next, 1))] K = some (.int .i64 x) := by simp [rsem, AHeap.ld, bx.row]
  have l2 : rsem (.ld 1 false) [.ptr (some (H.next, 2))] K = some (.int .i64 y) := by simp [rsem, AHeap.ld, bx.row]
  have l3 : rsem (.ld 1 false) [.ptr (some (H.next, 3))] K = some (.int .i64 z) := by simp [rsem, AHeap.ld, bx.row]
  have l4 : rsem (.ld 1 false) [.ptr (some (H.next, 4))] K = some (.str s) := by simp [rsem, AHeap.ld, bx.row]
  simp [ir326, AV.cells, AV.cell, hK, l0, l4]
  refine WB.dec ?_ ?_
  · intro h0
    simp [l1]
    refine WC.of (p343 D.d343 d1.fr.wf d1.ok d1.hp hB hA hA1 hp) ?_
    rintro r K1 ⟨rfl, S1, ⟨tg1, u1, h1⟩, e1⟩
    simp
    obtain ⟨m1, m2⟩ := make_law hd x (decide (s ≠ []))
    simp at m1 m2 e1
    exact ⟨tg1, S1, d1.up u1 h1, mx1.up d1.fr.wf u1, _, e1, m1, m2⟩
  · intro h0
    simp
    refine WB.dec ?_ ?_
    · intro h1
      simp [l1, l2, l3]
      refine WC.of (p345 D.d345 d1.fr.wf d1.ok d1.hp hB hA hp) ?_
      rintro r K1 ⟨rfl, S1, ⟨tg1, u1, h1⟩, e1⟩
      simp
      obtain ⟨m1, m2⟩ := set_law hd x y z (decide (s ≠ []))
      simp at m1 m2 e1
      exact ⟨tg1, S1, d1.up u1 h1, mx1.up d1.fr.wf u1, _, e1, m1, m2⟩
    · intro h1
      simp
      refine WB.dec ?_ ?_
      · intro h2
        simp [l1, l2]
        refine WC.of (p346 D.d346 d1.fr.wf d1.ok d1.hp hB hA hp) ?_
        rintro r K1 ⟨rfl, S1, ⟨tg1, u1, h1⟩, e1⟩
        simp
        obtain ⟨m1, m2⟩ := clear_law hd x y
        exact ⟨tg1, S1, d1.up u1 h1, mx1.up d1.fr.wf u1, _, e1, m1, m2⟩
      · intro h2
        simp [h3, h4, h5, h6]
        exact ⟨tg, S, d1, mx1, Q, ⟨hB, by omega⟩, hd, fun _ => rfl⟩

theorem c314 (D : D314 T) {H : AHeap} (hw : WF H) {v : AV} {l : List Act} (hl : Sl encAct 5 H v l) : Calls T 314 [v] H fun r K => r = .bool true := by
  refine Calls.fn D.pr D.fn ?_
  simp [ir314, hl.len]
  refine WB.dec ?_ ?_
  · intro h0
    simp
    refine WC.of (c319 D.d319 hw) ?_
    rintro r K rfl
    simp
  · intro h0
    simp
    refine WC.of (c320 (tg := fun _ => none) D.d320 0 hw (fun _ _ => rfl)) ?_
    rintro r K ⟨rfl, tg1, u1, h1⟩
    obtain ⟨e1, e2⟩ := upNew (H0 := H) (Fr.refl hw) (fun g j t ht => by cases ht) u1
    have d : Uno H tg1 K (H.next + 1) Hp.none := ⟨e1, u1.ok, e2, h1⟩
    obtain ⟨w1, w2, w3⟩ := u1.wf.newMap
    have d1 := d.free ⟨w1, w3 _⟩
    have mx1 : Mx tg1 K.newMap K.next [] := ⟨w2, d.ok _ (Nat.le_refl _)⟩
    have hmn : H.next ≤ K.next := e1.next
    obtain ⟨b, hb⟩ : ∃ b, H.next + 1 = b := ⟨_, rfl⟩
    obtain ⟨m, hm⟩ : ∃ m, K.next = m := ⟨_, rfl⟩
    rw [hb] at d1
    rw [hm] at mx1 hmn
    simp [hb, hm]
    refine W_loop (fun (i : Nat) e X => e 0 = v ∧ e 3 = .ptr (some (b, 0)) ∧ e 4 = .map (some m) ∧ ∃ j : Nat, i + j = l.length ∧ e 5 = .int .i64 j ∧ ∃ tg S, Uno H tg X b S ∧ ∃ Q, Both ((j : Int) + 1) S Q ∧ phi Q ≤ 12 * j ∧ Dry Q ∧ ∃ rs, Mx tg X m rs ∧ ∀ a, rget rs a = nOf Q a) id l.length ?_ ?_
    · exact ⟨by simp, by simp, by simp, 0, by simp, by simp, _, _, d1, _, both_none, by decide, dry_none, _, mx1, fun a => by rw [nOf_none]; rfl⟩
    · rintro i e X ⟨x0, x3, x4, j, hj, x5, tg, S, d, Q, hB, hp, hd, rs, mx, hr⟩
      simp [x0, x3, x4, x5, hl.len]
      refine WB.dec ?_ ?_
      · intro hjl
        have hs := hl.fr hw d.fr
        have ia := hs.ia (k := .i64) (i := j) (by omega) (by omega)
        obtain ⟨a, ha⟩ : ∃ a, nth l (j : Int) = a := ⟨_, rfl⟩
        have ld := hs.ldA (i := j) (by omega) (by omega) (cs := [.int .i64 a.o, .int .i64 a.x, .int .i64 a.y, .int .i64 a.z, .str a.s]) (by rw [ha]; rfl)
        obtain ⟨Y, s1, s2, s3⟩ := box_copy d.fr.wf (n := 5) (zs := [.int .i64 0, .int .i64 0, .int .i64 0, .int .i64 0, .str []]) (ds := [.int .i64 a.o, .int .i64 a.x, .int .i64 a.y, .int .i64 a.z, .str a.s]) rfl rfl (by simp [AV.cell])
        have ok0 := d.ok _ (Nat.le_refl _)
        have mx := mx.free d.fr.wf s2
        replace d := d.free s2
        have bx : Bx tg Y X.next X.next [.int .i64 a.o, .int .i64 a.x, .int .i64 a.y, .int .i64 a.z, .str a.s] := ⟨s3, ok0⟩
        have ldx : ∀ {Z : AHeap} {tg' : Tags}, Bx tg' Z X.next X.next [.int .i64 a.o, .int .i64 a.x, .int .i64 a.y, .int .i64 a.z, .str a.s] →
            rsem (.ld 1 false) [.ptr (some (X.next, 0))] Z = some (.int .i64 a.o) ∧ rsem (.ld 1 false) [.ptr (some (X.next, 1))] Z = some (.int .i64 a.x) ∧ rsem (.ld 5 true) [.ptr (some (X.next, 0))] Z = some (.agg [.int .i64 a.o, .int .i64 a.x, .int .i64 a.y, .int .i64 a.z, .str a.s]) := by
          intro Z tg' b
          simp [rsem, AHeap.ld, b.box.row]
        obtain ⟨l0, l1, l5⟩ := ldx bx
        simp [x0, x3, x4, x5, ia, ld, AV.cells, AV.cell, s1, l0, l1, l5]
        have hB0 := hB
        by_cases o56 : a.o = 5 ∨ a.o = 6
        · have red : Calls T 323 [.ptr (some (b, 0))] Y fun r Z => ∃ tell to, r = .tup [.int .i64 to, .bool tell] ∧ ∃ tg1 S1 Q1, Uno H tg1 Z b S1 ∧ Mx tg1 Z m rs ∧ Both ((j : Int) + 1 + 1) S1 Q1 ∧ phi Q1 ≤ 12 * (j + 1) ∧ Dry Q1 ∧ ∀ c, nOf Q1 c = if tell = true ∧ c = to then nOf Q c + 1 else nOf Q c := by
            refine (p323 D.d323 d.fr.wf d.ok d.hp hB (by omega) (by omega)).imp ?_
            rintro r Z ⟨rfl, S1, ⟨tg1, u1, h1⟩, e1⟩
            obtain ⟨n1, n2⟩ := next_law (by omega) (2 ^ 29) hB (by omega) (by omega) hd
            exact ⟨_, _, rfl, tg1, S1, _, d.up u1 h1, mx.up d.fr.wf u1, e1.both.mono (by omega), by have := e1.ph; omega, n1, n2⟩
          rcases o56 with o5 | o6
          · simp [x0, x3, x4, x5, o5]
            refine WC.of red ?_
            rintro r Z ⟨tell, to, rfl, tg1, S1, Q1, d, mx, hB, hp, hd, n2⟩
            cases tell with
            | false =>
              replace hr : ∀ c, rget rs c = nOf Q1 c := fun c => by rw [hr, n2]; simp
              simp [x0, x3, x4, x5]
              by_cases hm8 : (j : Int).tmod 8 = 7
              · simp [x0, x3, x4, x5, hm8]
                refine WC.of (c327 D.d327 d mx hB (by omega) hd hr) ?_
                rintro r Z9 ⟨rfl, tg9, d, mx⟩
                simp [x0, x3, x4, x5]
                exact ⟨i - 1, by omega, j + 1, by omega, by rw [wrap64 (by omega) (by omega)]; simp, _, _, d, _, by simpa using hB, hp, hd, _, mx, hr⟩
              · simp [x0, x3, x4, x5, hm8]
                exact ⟨i - 1, by omega, j + 1, by omega, by rw [wrap64 (by omega) (by omega)]; simp, _, _, d, _, by simpa using hB, hp, hd, _, mx, hr⟩
            | true =>
              have hok : True := trivial
              simp [x0, x3, x4, x5]
              have bn := nOf_bnd hB0 (by omega) to
              have hw1 : IntKind.i64.wrap (nOf Q to + 1) = nOf Q to + 1 := wrap64 (by omega) (by omega)
              obtain ⟨Z3, t1, t2, t3, t4⟩ := mx.set d.fr.wf to (nOf Q to + 1)
              simp [x0, x3, x4, x5, l1, mx.look, hr, hw1, t1]
              have no := mx.no
              replace mx := t3
              replace d := d.step t2 hmn (t4.mono fun g hg => by subst hg; exact ⟨Nat.le_refl _, no⟩)
              replace hr : ∀ c, rget (rset rs to (nOf Q to + 1)) c = nOf Q1 c := fun c => by
                rw [rget_rset, hr, n2]
                by_cases hc : c = to
                · subst hc; simp [hok]
                · simp [hc]
              by_cases hm8 : (j : Int).tmod 8 = 7
              · simp [x0, x3, x4, x5, hm8]
                refine WC.of (c327 D.d327 d mx hB (by omega) hd hr) ?_
                rintro r Z9 ⟨rfl, tg9, d, mx⟩
                simp [x0, x3, x4, x5]
                exact ⟨i - 1, by omega, j + 1, by omega, by rw [wrap64 (by omega) (by omega)]; simp, _, _, d, _, by simpa using hB, hp, hd, _, mx, hr⟩
              · simp [x0, x3, x4, x5, hm8]
                exact ⟨i - 1, by omega, j + 1, by omega, by rw [wrap64 (by omega) (by omega)]; simp, _, _, d, _, by simpa using hB, hp, hd, _, mx, hr⟩
          · simp [x0, x3, x4, x5, o6, l0]
            refine WC.of red ?_
            rintro r Z ⟨tell, to, rfl, tg1, S1, Q1, d, mx, hB, hp, hd, n2⟩
            cases tell with
            | false =>
              replace hr : ∀ c, rget rs c = nOf Q1 c := fun c => by rw [hr, n2]; simp
              simp [x0, x3, x4, x5]
              by_cases hm8 : (j : Int).tmod 8 = 7
              · simp [x0, x3, x4, x5, hm8]
                refine WC.of (c327 D.d327 d mx hB (by omega) hd hr) ?_
                rintro r Z9 ⟨rfl, tg9, d, mx⟩
                simp [x0, x3, x4, x5]
                exact ⟨i - 1, by omega, j + 1, by omega, by rw [wrap64 (by omega) (by omega)]; simp, _, _, d, _, by simpa using hB, hp, hd, _, mx, hr⟩
              · simp [x0, x3, x4, x5, hm8]
                exact ⟨i - 1, by omega, j + 1, by omega, by rw [wrap64 (by omega) (by omega)]; simp, _, _, d, _, by simpa using hB, hp, hd, _, mx, hr⟩
            | true =>
              have hok : True := trivial
              simp [x0, x3, x4, x5]
              have bn := nOf_bnd hB0 (by omega) to
              have hw1 : IntKind.i64.wrap (nOf Q to + 1) = nOf Q to + 1 := wrap64 (by omega) (by omega)
              obtain ⟨Z3, t1, t2, t3, t4⟩ := mx.set d.fr.wf to (nOf Q to + 1)
              simp [x0, x3, x4, x5, l1, mx.look, hr, hw1, t1]
              have no := mx.no
              replace mx := t3
              replace d := d.step t2 hmn (t4.mono fun g hg => by subst hg; exact ⟨Nat.le_refl _, no⟩)
              replace hr : ∀ c, rget (rset rs to (nOf Q to + 1)) c = nOf Q1 c := fun c => by
                rw [rget_rset, hr, n2]
                by_cases hc : c = to
                · subst hc; simp [hok]
                · simp [hc]
              by_cases hm8 : (j : Int).tmod 8 = 7
              · simp [x0, x3, x4, x5, hm8]
                refine WC.of (c327 D.d327 d mx hB (by omega) hd hr) ?_
                rintro r Z9 ⟨rfl, tg9, d, mx⟩
                simp [x0, x3, x4, x5]
                exact ⟨i - 1, by omega, j + 1, by omega, by rw [wrap64 (by omega) (by omega)]; simp, _, _, d, _, by simpa using hB, hp, hd, _, mx, hr⟩
              · simp [x0, x3, x4, x5, hm8]
                exact ⟨i - 1, by omega, j + 1, by omega, by rw [wrap64 (by omega) (by omega)]; simp, _, _, d, _, by simpa using hB, hp, hd, _, mx, hr⟩
        · have o5 : a.o ≠ 5 := fun e => o56 (.inl e)
          have o6 : a.o ≠ 6 := fun e => o56 (.inr e)
          simp [x0, x3, x4, x5, o5, o6, l0]
          by_cases o3 : a.o = 3
          · simp [x0, x3, x4, x5, o3, l1]
            refine WC.of (p324 D.d324 d.fr.wf d.ok d.hp hB (by omega) (by omega)) ?_
            rintro r Z ⟨rfl, S1, ⟨tg1, u1, h1⟩, e1⟩
            obtain ⟨n1, n2⟩ := root_law hd a.x
            replace bx := bx.up d.fr.wf u1
            replace mx := mx.up d.fr.wf u1
            replace d := d.up u1 h1
            replace hB := e1.both
            replace hp : phi (rootQ Q a.x).1 ≤ 12 * (j + 1) := by have := e1.ph; omega
            replace hd := n1
            obtain ⟨l0, l1, l5⟩ := ldx bx
            by_cases hok : (rootQ Q a.x).2 = 0
            · simp [x0, x3, x4, x5, hok, l1]
              have bn := nOf_bnd hB0 (by omega) a.x
              have hw1 : IntKind.i64.wrap (nOf Q a.x + 1) = nOf Q a.x + 1 := wrap64 (by omega) (by omega)
              obtain ⟨Z3, t1, t2, t3, t4⟩ := mx.set d.fr.wf a.x (nOf Q a.x + 1)
              simp [x0, x3, x4, x5, l1, mx.look, hr, hw1, t1]
              have no := mx.no
              replace mx := t3
              replace d := d.step t2 hmn (t4.mono fun g hg => by subst hg; exact ⟨Nat.le_refl _, no⟩)
              replace hr : ∀ c, rget (rset rs a.x (nOf Q a.x + 1)) c = nOf (rootQ Q a.x).1 c := fun c => by
                rw [rget_rset, hr, n2]
                by_cases hc : c = a.x
                · subst hc; simp [hok]
                · simp [hc]
              by_cases hm8 : (j : Int).tmod 8 = 7
              · simp [x0, x3, x4, x5, hm8]
                refine WC.of (c327 D.d327 d mx hB (by omega) hd hr) ?_
                rintro r Z9 ⟨rfl, tg9, d, mx⟩
                simp [x0, x3, x4, x5]
                exact ⟨i - 1, by omega, j + 1, by omega, by rw [wrap64 (by omega) (by omega)]; simp, _, _, d, _, by simpa using hB, hp, hd, _, mx, hr⟩
              · simp [x0, x3, x4, x5, hm8]
                exact ⟨i - 1, by omega, j + 1, by omega, by rw [wrap64 (by omega) (by omega)]; simp, _, _, d, _, by simpa using hB, hp, hd, _, mx, hr⟩
            · replace hr : ∀ c, rget rs c = nOf (rootQ Q a.x).1 c := fun c => by rw [hr, n2]; simp [hok]
              simp [x0, x3, x4, x5, hok, l1]
              by_cases hm8 : (j : Int).tmod 8 = 7
              · simp [x0, x3, x4, x5, hm8]
                refine WC.of (c327 D.d327 d mx hB (by omega) hd hr) ?_
                rintro r Z9 ⟨rfl, tg9, d, mx⟩
                simp [x0, x3, x4, x5]
                exact ⟨i - 1, by omega, j + 1, by omega, by rw [wrap64 (by omega) (by omega)]; simp, _, _, d, _, by simpa using hB, hp, hd, _, mx, hr⟩
              · simp [x0, x3, x4, x5, hm8]
                exact ⟨i - 1, by omega, j + 1, by omega, by rw [wrap64 (by omega) (by omega)]; simp, _, _, d, _, by simpa using hB, hp, hd, _, mx, hr⟩
          · simp [x0, x3, x4, x5, o3, l0]
            by_cases o4 : a.o = 4
            · simp [x0, x3, x4, x5, o4, l1]
              refine WC.of (p325 D.d325 d.fr.wf d.ok d.hp hB (by omega) (by omega)) ?_
              rintro r Z ⟨rfl, S1, ⟨tg1, u1, h1⟩, e1⟩
              obtain ⟨n1, n2⟩ := drop_law hd a.x
              replace bx := bx.up d.fr.wf u1
              replace mx := mx.up d.fr.wf u1
              replace d := d.up u1 h1
              replace hB := e1.both.mono (B := (j : Int) + 1 + 1) (by omega)
              replace hp : phi (dropQ Q a.x).1 ≤ 12 * (j + 1) := by have := e1.ph; omega
              replace hd := n1
              obtain ⟨l0, l1, l5⟩ := ldx bx
              by_cases hok : (dropQ Q a.x).2 = 0
              · simp [x0, x3, x4, x5, hok, l1]
                have bn := nOf_bnd hB0 (by omega) a.x
                have hw1 : IntKind.i64.wrap (nOf Q a.x - 1) = nOf Q a.x - 1 := wrap64 (by omega) (by omega)
                obtain ⟨Z3, t1, t2, t3, t4⟩ := mx.set d.fr.wf a.x (nOf Q a.x - 1)
                simp [x0, x3, x4, x5, l1, mx.look, hr, hw1, t1]
                have no := mx.no
                replace mx := t3
                replace d := d.step t2 hmn (t4.mono fun g hg => by subst hg; exact ⟨Nat.le_refl _, no⟩)
                replace hr : ∀ c, rget (rset rs a.x (nOf Q a.x - 1)) c = nOf (dropQ Q a.x).1 c := fun c => by
                  rw [rget_rset, hr, n2]
                  by_cases hc : c = a.x
                  · subst hc; simp [hok]
                  · simp [hc]
                by_cases hm8 : (j : Int).tmod 8 = 7
                · simp [x0, x3, x4, x5, hm8]
                  refine WC.of (c327 D.d327 d mx hB (by omega) hd hr) ?_
                  rintro r Z9 ⟨rfl, tg9, d, mx⟩
                  simp [x0, x3, x4, x5]
                  exact ⟨i - 1, by omega, j + 1, by omega, by rw [wrap64 (by omega) (by omega)]; simp, _, _, d, _, by simpa using hB, hp, hd, _, mx, hr⟩
                · simp [x0, x3, x4, x5, hm8]
                  exact ⟨i - 1, by omega, j + 1, by omega, by rw [wrap64 (by omega) (by omega)]; simp, _, _, d, _, by simpa using hB, hp, hd, _, mx, hr⟩
              · replace hr : ∀ c, rget rs c = nOf (dropQ Q a.x).1 c := fun c => by rw [hr, n2]; simp [hok]
                simp [x0, x3, x4, x5, hok, l1]
                by_cases hm8 : (j : Int).tmod 8 = 7
                · simp [x0, x3, x4, x5, hm8]
                  refine WC.of (c327 D.d327 d mx hB (by omega) hd hr) ?_
                  rintro r Z9 ⟨rfl, tg9, d, mx⟩
                  simp [x0, x3, x4, x5]
                  exact ⟨i - 1, by omega, j + 1, by omega, by rw [wrap64 (by omega) (by omega)]; simp, _, _, d, _, by simpa using hB, hp, hd, _, mx, hr⟩
                · simp [x0, x3, x4, x5, hm8]
                  exact ⟨i - 1, by omega, j + 1, by omega, by rw [wrap64 (by omega) (by omega)]; simp, _, _, d, _, by simpa using hB, hp, hd, _, mx, hr⟩
            · simp [x0, x3, x4, x5, o4, l5]
              refine WC.of (c326 D.d326 d mx hB (by omega) (by omega) (by omega) hd o3 o4 o5 o6) ?_
              rintro r Z ⟨tg1, S1, Q1, d, mx, e1, hd, n2⟩
              replace hB := e1.both.mono (B := (j : Int) + 1 + 1) (by omega)
              replace hp : phi Q1 ≤ 12 * (j + 1) := by have := e1.ph; omega
              replace hr : ∀ c, rget rs c = nOf Q1 c := fun c => by rw [hr, n2]
              simp [x0, x3, x4, x5]
              by_cases hm8 : (j : Int).tmod 8 = 7
              · simp [x0, x3, x4, x5, hm8]
                refine WC.of (c327 D.d327 d mx hB (by omega) hd hr) ?_
                rintro r Z9 ⟨rfl, tg9, d, mx⟩
                simp [x0, x3, x4, x5]
                exact ⟨i - 1, by omega, j + 1, by omega, by rw [wrap64 (by omega) (by omega)]; simp, _, _, d, _, by simpa using hB, hp, hd, _, mx, hr⟩
              · simp [x0, x3, x4, x5, hm8]
                exact ⟨i - 1, by omega, j + 1, by omega, by rw [wrap64 (by omega) (by omega)]; simp, _, _, d, _, by simpa using hB, hp, hd, _, mx, hr⟩
      · intro hjl
        simp [x3, x4]
        refine WC.of (c327 D.d327 d mx hB (by omega) hd hr) ?_
        rintro r Z ⟨rfl, tg2, d2, _⟩
        simp
        refine WC.of (c319 D.d319 d2.fr.wf) ?_
        rintro r Z' rfl
        simp

theorem law314 (D : D314 T) {K : AHeap} {as : List AV} (hw : WF K) (hg : Goods K [.slice shA] as) : Calls T 314 as K fun v _ => v = .bool true := by
  obtain ⟨a, r, rfl, g1, rfl⟩ := hg
  obtain ⟨l, hl⟩ := g1.acts
  exact c314 D hw hl
end Go.Am
