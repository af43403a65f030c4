/- The law HeapPlays: one act on both heaps; all acts. -/
import Derived.Test.YtpdedphkjkhddaaAmHeapQ
import Derived.Test.YtpdedphkjkhddaaAmHeapU
set_option linter.unusedVariables false
set_option linter.unusedSimpArgs false
namespace Go.Am
variable {T : Tab}
theorem settleQ_len : ∀ {m n : Nat} {Q : Rp}, (settleQ m n Q).2.length ≤ m
  | 0, n, Q => by simp [settleQ]
  | m + 1, n, Q => by
    unfold settleQ
    split
    · simp
    · have := settleQ_len (m := m) (n := n) (Q := (dropQ (nextQ n Q).1 (nextQ n Q).2.1).1)
      simpa using this
/-- What an act leaves. -/
def Acted (A : Int) (H0 : AHeap) (b1 b2 : Nat) (Q : Rp) (r : AV) (K : AHeap) : Prop := r = .bool true ∧ ∃ tg' S' Q', Duo H0 tg' K b1 b2 S' Q' ∧ Both (A + 1) S' Q' ∧ phi Q' ≤ phi Q + 12 ∧ (Dry Q → Dry Q')
theorem acted {A : Int} {H0 K : AHeap} {b1 b2 : Nat} {S : Hp} {Q0 Q : Rp} {tg : Tags} (d : Duo H0 tg K b1 b2 S Q) (h : Done A (phi Q0) S Q) (hd : Dry Q0 → Dry Q) : Acted A H0 b1 b2 Q0 (.bool true) K := ⟨rfl, tg, S, Q, d, h.both.mono (by omega), h.ph, hd⟩
/-- Settle leaves the ended cells empty. -/
theorem settle_law {A : Int} (hA : A ≤ 2 ^ 40) {n : Nat} : ∀ (m : Nat) {S : Hp} {Q : Rp}, Both A S Q → phi Q < m → phi Q < n → phi Q < 2 ^ 38 → Dry Q → Dry (settleQ m n Q).1
  | 0, S, Q, _, h, _, _, _ => absurd h (by omega)
  | m + 1, S, Q, h, hm, hn, hp, d => by
    obtain ⟨i1, i2, i3, i4, i5, i6⟩ := both_next hA n h hn hp
    have dn := (next_law hA n h hn hp d).1
    unfold settleQ
    by_cases ht : (nextQ n Q).2.2 = true
    · obtain ⟨j1, j2, j3, j4, j5⟩ := i6 ht
      rw [if_neg (by simp [ht])]
      obtain ⟨g, gp⟩ := both_unroot i4 j2 j3 j5
      have hd : dropQ (nextQ n Q).1 (nextQ n Q).2.1 = (noteQ (qset (nextQ n Q).1 (nextQ n Q).2.1 { nth (nextQ n Q).1.cells (nextQ n Q).2.1 with n := (nth (nextQ n Q).1.cells (nextQ n Q).2.1).n - 1 }) (nextQ n Q).2.1, 0) := by
        unfold dropQ
        have : hasR (nextQ n Q).1.hp (nextQ n Q).2.1 true = 0 := by
          unfold hasR
          simp only [Rp.hp_cells]
          rw [if_neg (by omega), if_neg (by rw [j4]; simp)]
        rw [this, if_neg (by simp), if_neg j5]
      have dd := (drop_law dn (nextQ n Q).2.1).1
      obtain ⟨Q2, hQ2⟩ : ∃ Q2, noteQ (qset (nextQ n Q).1 (nextQ n Q).2.1 { nth (nextQ n Q).1.cells (nextQ n Q).2.1 with n := (nth (nextQ n Q).1.cells (nextQ n Q).2.1).n - 1 }) (nextQ n Q).2.1 = Q2 := ⟨_, rfl⟩
      rw [hQ2] at hd g gp
      rw [hd] at dd ⊢
      exact settle_law (n := n) (Q := Q2) hA m g (by omega) (by omega) (by omega) dd
    · rw [if_pos (by simpa using ht)]
      exact dn
theorem c321 (D : D321 T) {H0 H : AHeap} {tg : Tags} {b1 b2 : Nat} {S : Hp} {Q : Rp} {A : Int} (d : Duo H0 tg H b1 b2 S Q) (hB : Both A S Q) (hA : A ≤ 2 ^ 40) (hA1 : 1 ≤ A) (hp : phi Q < 2 ^ 29) {o x y z : Int} {s : List UInt8} :
    Calls T 321 [.ptr (some (b1, 0)), .ptr (some (b2, 0)), .agg [.int .i64 o, .int .i64 x, .int .i64 y, .int .i64 z, .str s]] H fun r K => Acted A H0 b1 b2 Q r K := by
  refine Calls.fn D.pr D.fn ?_
  have bx := Bx.new (H := H) (cs := [.int .i64 o, .int .i64 x, .int .i64 y, .int .i64 z, .str s]) d.ok
  obtain ⟨K, hK⟩ : ∃ K, H.new [.int .i64 o, .int .i64 x, .int .i64 y, .int .i64 z, .str s] = K := ⟨_, rfl⟩
  have d1 : Duo H0 tg K b1 b2 S Q := by rw [← hK]; exact d.free d.fr.wf.fr_new
  rw [hK] at bx
  have ld : ∀ {X : AHeap} {tg' : Tags}, Bx tg' X H.next H.next [.int .i64 o, .int .i64 x, .int .i64 y, .int .i64 z, .str s] →
      rsem (.ld 1 false) [.ptr (some (H.next, 0))] X = some (.int .i64 o) ∧ rsem (.ld 1 false) [.ptr (some (H.next, 1))] X = some (.int .i64 x) ∧ rsem (.ld 1 false) [.ptr (some (H.next, 2))] X = some (.int .i64 y) ∧ rsem (.ld 1 false) [.ptr (some (H.next, 3))] X = some (.int .i64 z) ∧ rsem (.ld 1 false) [.ptr (some (H.next, 4))] X = some (.str s) := by
    intro X tg' b
    simp [rsem, AHeap.ld, b.box.row]
  obtain ⟨l0, l1, l2, l3, l4⟩ := ld bx
  simp [ir321, AV.cells, AV.cell, hK, l0, l4]
  refine WB.dec ?_ ?_
  · intro h0
    simp [l1]
    refine WC.of (p343 D.d343 d1.fr.wf d1.ok d1.hp hB hA hA1 hp) ?_
    rintro r K1 ⟨rfl, S1, ⟨tg1, u1, h1⟩, e1⟩
    have d2 := d1.one u1 h1
    have b2 := bx.up d1.fr.wf u1
    obtain ⟨m0, m1, m2, m3, m4⟩ := ld b2
    simp [m1]
    refine WC.of (q347 D.d347 d2.fr.wf d2.ok d2.rp hB hA hp) ?_
    rintro r K2 ⟨rfl, tg2, u2, h2⟩
    simp
    exact acted (d2.two u2 h2) e1 (fun dq => (make_law dq x _).1)
  · intro h0
    simp
    refine WB.dec ?_ ?_
    · intro h0
      refine W_seq.2 (W_floats ?_)
      simp [l1, l2, l3]
      refine WC.of (p345 D.d345 d1.fr.wf d1.ok d1.hp hB hA hp) ?_
      rintro r K1 ⟨rfl, S1, ⟨tg1, u1, h1⟩, e1⟩
      have d2 := d1.one u1 h1
      have bx2 := bx.up d1.fr.wf u1
      obtain ⟨m0, m1, m2, m3, m4⟩ := ld bx2
      simp [m1, m2, m3]
      refine WC.of (q348 D.d348 d2.fr.wf d2.ok d2.rp hB hA hp) ?_
      rintro r K2 ⟨rfl, tg2, u2, h2⟩
      simp [floatOk, wanted, AV.same_refl, l1, l2, l3, m1, m2, m3]
      exact acted (d2.two u2 h2) e1 (fun dq => (set_law dq x y z _).1)
    · intro h0
      simp
      refine WB.dec ?_ ?_
      · intro h0
        refine W_seq.2 (W_floats ?_)
        simp [l1, l2]
        refine WC.of (p346 D.d346 d1.fr.wf d1.ok d1.hp hB hA hp) ?_
        rintro r K1 ⟨rfl, S1, ⟨tg1, u1, h1⟩, e1⟩
        have d2 := d1.one u1 h1
        have bx2 := bx.up d1.fr.wf u1
        obtain ⟨m0, m1, m2, m3, m4⟩ := ld bx2
        simp [m1, m2]
        refine WC.of (q349 D.d349 d2.fr.wf d2.ok d2.rp hB hA hp) ?_
        rintro r K2 ⟨rfl, tg2, u2, h2⟩
        simp [floatOk, wanted, AV.same_refl, l1, l2, m1, m2]
        exact acted (d2.two u2 h2) e1 (fun dq => (clear_law dq x y).1)
      · intro h0
        simp
        refine WB.dec ?_ ?_
        · intro h0
          refine W_seq.2 (W_floats ?_)
          simp [l1]
          refine WC.of (p324 D.d324 d1.fr.wf d1.ok d1.hp hB hA hp) ?_
          rintro r K1 ⟨rfl, S1, ⟨tg1, u1, h1⟩, e1⟩
          have d2 := d1.one u1 h1
          have bx2 := bx.up d1.fr.wf u1
          obtain ⟨m0, m1, m2, m3, m4⟩ := ld bx2
          simp [m1]
          refine WC.of (q350 D.d350 d2.fr.wf d2.ok d2.rp hB hA hp) ?_
          rintro r K2 ⟨rfl, tg2, u2, h2⟩
          simp [floatOk, wanted, AV.same_refl, l1, m1]
          exact ⟨rfl, tg2, _, _, d2.two u2 h2, e1.both, e1.ph, (fun dq => (root_law dq x).1)⟩
        · intro h0
          simp
          refine WB.dec ?_ ?_
          · intro h0
            refine W_seq.2 (W_floats ?_)
            simp [l1]
            refine WC.of (p325 D.d325 d1.fr.wf d1.ok d1.hp hB hA hp) ?_
            rintro r K1 ⟨rfl, S1, ⟨tg1, u1, h1⟩, e1⟩
            have d2 := d1.one u1 h1
            have bx2 := bx.up d1.fr.wf u1
            obtain ⟨m0, m1, m2, m3, m4⟩ := ld bx2
            simp [m1]
            refine WC.of (q351 D.d351 d2.fr.wf d2.ok d2.rp hB hA hp) ?_
            rintro r K2 ⟨rfl, tg2, u2, h2⟩
            simp [floatOk, wanted, AV.same_refl, l1, m1]
            exact acted (d2.two u2 h2) e1 (fun dq => (drop_law dq x).1)
          · intro h0
            simp
            refine WB.dec ?_ ?_
            · intro h0
              simp
              refine WC.of (p323 D.d323 d1.fr.wf d1.ok d1.hp hB hA hp) ?_
              rintro r K1 ⟨rfl, S1, ⟨tg1, u1, h1⟩, e1⟩
              have d2 := d1.one u1 h1
              simp
              refine WC.of (q352 D.d352 d2.fr.wf d2.ok d2.rp hB hA hp) ?_
              rintro r K2 ⟨rfl, tg2, u2, h2⟩
              simp
              exact acted (d2.two u2 h2) e1 (fun dq => (next_law hA _ hB (by omega) (by omega) dq).1)
            · intro h0
              simp
              refine WB.dec ?_ ?_
              · intro h0
                simp
                refine WC.of (p339 D.d339 d1.fr.wf d1.ok d1.hp hB hA hp) ?_
                rintro r K1 ⟨S1, tg1, u1, h1, e1, f1⟩
                have d2 := d1.one u1 h1
                simp
                refine WC.of (q353 D.d353 d2.fr.wf d2.ok d2.rp hB hA hp) ?_
                rintro r K2 ⟨tg2, u2, h2, f2⟩
                have d3 := d2.two u2 h2
                have f1' := f1.up d2.fr.wf u2
                simp
                refine WC.of (c135 D.d135 f1'.sl f2.sl (by have := settleQ_len (m := 2 ^ 29) (n := 2 ^ 29) (Q := Q); omega)) ?_
                rintro r K3 ⟨rfl, rfl⟩
                simp
                exact acted d3 e1 (fun dq => settle_law hA _ hB (by omega) (by omega) (by omega) dq)
              · intro h0
                simp
                exact ⟨rfl, tg, _, _, d1, hB.mono (by omega), by omega, id⟩
end Go.Am
