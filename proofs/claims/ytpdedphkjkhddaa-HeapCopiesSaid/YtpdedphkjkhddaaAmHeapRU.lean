/- Contracts: seen and played, and that other structures stay. Printed by mkru.py. -/
import Derived.Test.YtpdedphkjkhddaaAmHeapR
import Derived.Test.YtpdedphkjkhddaaAmUps
set_option linter.unusedVariables false
set_option linter.unusedSimpArgs false
namespace Go.Am
variable {T : Tab}
/-- Two heaps, and what was done since Hz was done to them alone. -/
structure DuoU (tz : Tags) (Hz H0 : AHeap) (tg : Tags) (H : AHeap) (b1 b2 : Nat) (S : Hp) (Q : Rp) : Prop extends Duo H0 tg H b1 b2 S Q where
  wz : WF Hz
  us : Ups (fun j => j < 2) tz tg Hz H
section
variable {tz : Tags} {Hz H0 H K : AHeap} {tg tg' : Tags} {b1 b2 : Nat} {S S' : Hp} {Q Q' : Rp}
theorem DuoU.one (d : DuoU tz Hz H0 tg H b1 b2 S Q) (u : Up 0 tg tg' H K) (h : HpR 0 tg' K b1 0 S') : DuoU tz Hz H0 tg' K b1 b2 S' Q :=
  ⟨d.toDuo.one u h, d.wz, d.us.trans d.wz (.of u (by decide))⟩
theorem DuoU.two (d : DuoU tz Hz H0 tg H b1 b2 S Q) (u : Up 1 tg tg' H K) (h : RpR 1 tg' K b2 Q') : DuoU tz Hz H0 tg' K b1 b2 S Q' :=
  ⟨d.toDuo.two u h, d.wz, d.us.trans d.wz (.of u (by decide))⟩
theorem DuoU.free (d : DuoU tz Hz H0 tg H b1 b2 S Q) (f : Fr H K) : DuoU tz Hz H0 tg K b1 b2 S Q :=
  ⟨d.toDuo.free f, d.wz, d.us.trans d.wz (.fr d.fr.wf d.ok f)⟩
end
theorem c322u (D : D322 T) {tz : Tags} {Hz H0 H : AHeap} {tg : Tags} {b1 b2 : Nat} {S : Hp} {Q : Rp} {A : Int} (d : DuoU tz Hz H0 tg H b1 b2 S Q) (hB : Both A S Q) (hA : A ≤ 2 ^ 40) (hp : phi Q < 2 ^ 29) :
    Calls T 322 [.ptr (some (b1, 0)), .ptr (some (b2, 0))] H fun r K => r = .bool true ∧ ∃ tg', DuoU tz Hz H0 tg' K b1 b2 S Q := by
  refine Calls.fn D.pr D.fn ?_
  simp [ir322]
  have hl := hB.good.shp.len
  refine W_loop (fun (i : Nat) e K => e 0 = .ptr (some (b1, 0)) ∧ e 1 = .ptr (some (b2, 0)) ∧ ∃ j : Nat, i + j = Q.cells.length + 2 ∧ e 5 = .int .i64 ((j : Int) - 1) ∧ ∃ tg', DuoU tz Hz H0 tg' K b1 b2 S Q) id (Q.cells.length + 2) ?_ ?_
  · exact ⟨by simp, by simp, 0, by simp, by simp, tg, d⟩
  · rintro i e K ⟨x0, x1, j, hj, x5, tg', d⟩
    obtain ⟨fb, cv, nv, fc, fn, xs, ff, hi⟩ := d.rp
    simp [x0, x1, x5, hi.ldc, hi.lenC]
    refine WB.dec ?_ ?_
    · intro hle
      have d0 := d
      clear hi
      simp [x0, x1, x5]
      refine WC.of (p341 D.d341 d.fr.wf d.ok d.hp hB) ?_
      rintro r K1 ⟨rfl, tg1, u1, h1⟩
      replace d := d.one u1 h1
      simp [x0, x1, x5]
      refine WC.of (c354 D.d354 d.fr.wf d.ok d.rp (hB.qbnd hA hp)) ?_
      rintro r K2 ⟨rfl, f2⟩
      replace d := d.free f2
      simp [x0, x1, x5]
      refine WC.of (p340 D.d340 d.fr.wf d.ok d.hp hB) ?_
      rintro r K3 ⟨rfl, tg3, u3, h3⟩
      replace d := d.one u3 h3
      simp [x0, x1, x5]
      refine WC.of (c355 D.d355 d.fr.wf d.ok d.rp) ?_
      rintro r K4 ⟨rfl, rfl⟩
      simp [x0, x1, x5]
      refine W_loop (fun (z : Nat) e K => e 0 = .ptr (some (b1, 0)) ∧ e 1 = .ptr (some (b2, 0)) ∧ e 5 = .int .i64 ((j : Int) - 1) ∧ ∃ q : Nat, z + q = 10 ∧ e 14 = .int .i64 ((q : Int) - 1) ∧ ∃ tg', DuoU tz Hz H0 tg' K b1 b2 S Q) id 10 ?_ ?_
      · exact ⟨by simp [x0], by simp [x1], by simp [x5], 0, by simp, by simp, _, d⟩
      · rintro z e K ⟨x0, x1, x5, q, hq, x14, tg', d⟩
        simp [x0, x1, x5, x14]
        refine WB.dec ?_ ?_
        · intro hq8
          simp [x0, x1, x5, x14]
          refine WC.of (p344 D.d344 d.fr.wf d.ok d.hp hB) ?_
          rintro r K1 ⟨rfl, tg1, u1, h1⟩
          replace d := d.one u1 h1
          simp [x0, x1, x5, x14]
          refine WC.of (c356 D.d356 d.fr.wf d.ok d.rp) ?_
          rintro r K2 ⟨rfl, f2⟩
          replace d := d.free f2
          simp [x0, x1, x5, x14]
          refine ⟨z - 1, by omega, q + 1, by omega, ?_, _, d⟩
          rw [wrap64 (by omega) (by omega)]
          simp
        · intro hq8
          simp [x0, x1, x5, x14]
          refine ⟨i - 1, by omega, j + 1, by omega, ?_, _, d⟩
          rw [wrap64 (by omega) (by omega)]
          simp
    · intro hle
      simp
      exact ⟨tg', d⟩
/-- What an act leaves. -/
def ActedU (A : Int) (tz : Tags) (Hz H0 : AHeap) (b1 b2 : Nat) (Q : Rp) (r : AV) (K : AHeap) : Prop := r = .bool true ∧ ∃ tg' S' Q', DuoU tz Hz H0 tg' K b1 b2 S' Q' ∧ Both (A + 1) S' Q' ∧ phi Q' ≤ phi Q + 12 ∧ (Dry Q → Dry Q')
theorem actedU {A : Int} {tz : Tags} {Hz H0 K : AHeap} {b1 b2 : Nat} {S : Hp} {Q0 Q : Rp} {tg : Tags} (d : DuoU tz Hz H0 tg K b1 b2 S Q) (h : Done A (phi Q0) S Q) (hd : Dry Q0 → Dry Q) : ActedU A tz Hz H0 b1 b2 Q0 (.bool true) K := ⟨rfl, tg, S, Q, d, h.both.mono (by omega), h.ph, hd⟩
theorem c321u (D : D321 T) {tz : Tags} {Hz H0 H : AHeap} {tg : Tags} {b1 b2 : Nat} {S : Hp} {Q : Rp} {A : Int} (d : DuoU tz Hz H0 tg H b1 b2 S Q) (hB : Both A S Q) (hA : A ≤ 2 ^ 40) (hA1 : 1 ≤ A) (hp : phi Q < 2 ^ 29) {o x y z : Int} {s : List UInt8} :
    Calls T 321 [.ptr (some (b1, 0)), .ptr (some (b2, 0)), .agg [.int .i64 o, .int .i64 x, .int .i64 y, .int .i64 z, .str s]] H fun r K => ActedU A tz Hz H0 b1 b2 Q r K := by
  refine Calls.fn D.pr D.fn ?_
  have bx := Bx.new (H := H) (cs := [.int .i64 o, .int .i64 x, .int .i64 y, .int .i64 z, .str s]) d.ok
  obtain ⟨K, hK⟩ : ∃ K, H.new [.int .i64 o, .int .i64 x, .int .i64 y, .int .i64 z, .str s] = K := ⟨_, rfl⟩
  have d1 : DuoU tz Hz H0 tg K b1 b2 S Q := by rw [← hK]; exact d.free d.fr.wf.fr_new
  rw [hK] at bx
  have ld : ∀ {X : AHeap} {tg' : Tags}, Bx tg' X H.next H.next [.int .i64 o, .int .i64 x, .int .i64 y, .int .i64 z, .str s] →
      rsem (.ld 1 false) [.ptr (some (H.next, 0))] X = some (.int .i64 o) ∧ rsem (.ld 1 false) [.ptr (some (H.next, 1))] X = some (.int .i64 x) ∧ rsem (.ld 1 false) [.ptr (some (H.next, 2))] X = some (.int .i64 y) ∧ rsem (.ld 1 false) [.ptr (some (H.next, 3))] X = some (.int .i64 z) ∧ rsem (.ld 1 false) [.ptr (some (H.next, 4))] X = some (.str s) := by
    intro X tg' b
    simp [rsem, AHeap.ld, b.box.row]
  obtain ⟨l0, l1, l2, l3, l4⟩ := ld bx
  simp [ir321, AV.cells, AV.cell, hK, l0, l4]
  refine WB.dec ?_ ?_
  · intro h0
    simp [l1]
    refine WC.of (p343 D.d343 d1.fr.wf d1.ok d1.hp hB hA hA1 hp) ?_
    rintro r K1 ⟨rfl, S1, ⟨tg1, u1, h1⟩, e1⟩
    have d2 := d1.one u1 h1
    have b2 := bx.up d1.fr.wf u1
    obtain ⟨m0, m1, m2, m3, m4⟩ := ld b2
    simp [m1]
    refine WC.of (q347 D.d347 d2.fr.wf d2.ok d2.rp hB hA hp) ?_
    rintro r K2 ⟨rfl, tg2, u2, h2⟩
    simp
    exact actedU (d2.two u2 h2) e1 (fun dq => (make_law dq x _).1)
  · intro h0
    simp
    refine WB.dec ?_ ?_
    · intro h0
      refine W_seq.2 (W_floats ?_)
      simp [l1, l2, l3]
      refine WC.of (p345 D.d345 d1.fr.wf d1.ok d1.hp hB hA hp) ?_
      rintro r K1 ⟨rfl, S1, ⟨tg1, u1, h1⟩, e1⟩
      have d2 := d1.one u1 h1
      have bx2 := bx.up d1.fr.wf u1
      obtain ⟨m0, m1, m2, m3, m4⟩ := ld bx2
      simp [m1, m2, m3]
      refine WC.of (q348 D.d348 d2.fr.wf d2.ok d2.rp hB hA hp) ?_
      rintro r K2 ⟨rfl, tg2, u2, h2⟩
      simp [floatOk, wanted, AV.same_refl, l1, l2, l3, m1, m2, m3]
      exact actedU (d2.two u2 h2) e1 (fun dq => (set_law dq x y z _).1)
    · intro h0
      simp
      refine WB.dec ?_ ?_
      · intro h0
        refine W_seq.2 (W_floats ?_)
        simp [l1, l2]
        refine WC.of (p346 D.d346 d1.fr.wf d1.ok d1.hp hB hA hp) ?_
        rintro r K1 ⟨rfl, S1, ⟨tg1, u1, h1⟩, e1⟩
        have d2 := d1.one u1 h1
        have bx2 := bx.up d1.fr.wf u1
        obtain ⟨m0, m1, m2, m3, m4⟩ := ld bx2
        simp [m1, m2]
        refine WC.of (q349 D.d349 d2.fr.wf d2.ok d2.rp hB hA hp) ?_
        rintro r K2 ⟨rfl, tg2, u2, h2⟩
        simp [floatOk, wanted, AV.same_refl, l1, l2, m1, m2]
        exact actedU (d2.two u2 h2) e1 (fun dq => (clear_law dq x y).1)
      · intro h0
        simp
        refine WB.dec ?_ ?_
        · intro h0
          refine W_seq.2 (W_floats ?_)
          simp [l1]
          refine WC.of (p324 D.d324 d1.fr.wf d1.ok d1.hp hB hA hp) ?_
          rintro r K1 ⟨rfl, S1, ⟨tg1, u1, h1⟩, e1⟩
          have d2 := d1.one u1 h1
          have bx2 := bx.up d1.fr.wf u1
          obtain ⟨m0, m1, m2, m3, m4⟩ := ld bx2
          simp [m1]
          refine WC.of (q350 D.d350 d2.fr.wf d2.ok d2.rp hB hA hp) ?_
          rintro r K2 ⟨rfl, tg2, u2, h2⟩
          simp [floatOk, wanted, AV.same_refl, l1, m1]
          exact ⟨rfl, tg2, _, _, d2.two u2 h2, e1.both, e1.ph, (fun dq => (root_law dq x).1)⟩
        · intro h0
          simp
          refine WB.dec ?_ ?_
          · intro h0
            refine W_seq.2 (W_floats ?_)
            simp [l1]
            refine WC.of (p325 D.d325 d1.fr.wf d1.ok d1.hp hB hA hp) ?_
            rintro r K1 ⟨rfl, S1, ⟨tg1, u1, h1⟩, e1⟩
            have d2 := d1.one u1 h1
            have bx2 := bx.up d1.fr.wf u1
            obtain ⟨m0, m1, m2, m3, m4⟩ := ld bx2
            simp [m1]
            refine WC.of (q351 D.d351 d2.fr.wf d2.ok d2.rp hB hA hp) ?_
            rintro r K2 ⟨rfl, tg2, u2, h2⟩
            simp [floatOk, wanted, AV.same_refl, l1, m1]
            exact actedU (d2.two u2 h2) e1 (fun dq => (drop_law dq x).1)
          · intro h0
            simp
            refine WB.dec ?_ ?_
            · intro h0
              simp
              refine WC.of (p323 D.d323 d1.fr.wf d1.ok d1.hp hB hA hp) ?_
              rintro r K1 ⟨rfl, S1, ⟨tg1, u1, h1⟩, e1⟩
              have d2 := d1.one u1 h1
              simp
              refine WC.of (q352 D.d352 d2.fr.wf d2.ok d2.rp hB hA hp) ?_
              rintro r K2 ⟨rfl, tg2, u2, h2⟩
              simp
              exact actedU (d2.two u2 h2) e1 (fun dq => (next_law hA _ hB (by omega) (by omega) dq).1)
            · intro h0
              simp
              refine WB.dec ?_ ?_
              · intro h0
                simp
                refine WC.of (p339 D.d339 d1.fr.wf d1.ok d1.hp hB hA hp) ?_
                rintro r K1 ⟨S1, tg1, u1, h1, e1, f1⟩
                have d2 := d1.one u1 h1
                simp
                refine WC.of (q353 D.d353 d2.fr.wf d2.ok d2.rp hB hA hp) ?_
                rintro r K2 ⟨tg2, u2, h2, f2⟩
                have d3 := d2.two u2 h2
                have f1' := f1.up d2.fr.wf u2
                simp
                refine WC.of (c135 D.d135 f1'.sl f2.sl (by have := settleQ_len (m := 2 ^ 29) (n := 2 ^ 29) (Q := Q); omega)) ?_
                rintro r K3 ⟨rfl, rfl⟩
                simp
                exact actedU d3 e1 (fun dq => settle_law hA _ hB (by omega) (by omega) (by omega) dq)
              · intro h0
                simp
                exact ⟨rfl, tg, _, _, d1, hB.mono (by omega), by omega, id⟩
end Go.Am
