/- Contracts of package big: whole numbers with their signs. -/
import Derived.Test.YtdgkaachkodimaaDoorAmFx
import Derived.Test.YtdgkaachkodimaaDoorAmBigsA
import Derived.Test.YtdgkaachkodimaaDoorAmIrBig
set_option linter.unusedVariables false
set_option linter.unusedSimpArgs false
namespace Go.Am
variable {T : Tab}
/-- Whether it is below 0. -/
def bel (z : Int) : Bool := decide (z < 0)
/-- A whole number's value. -/
def IV (D : Nat → Prop) (H : AHeap) (v : AV) (z : Int) : Prop := ∃ s, v = .agg [.bool (bel z), s] ∧ Rd D encI 1 H s (dig z.natAbs)
abbrev Pb.iv (v : AV) (z : Int) : Pb := ⟨fun D H => IV D H v z, fun _ _ _ _ hw h k hd => by obtain ⟨s, e, h⟩ := h; exact ⟨s, e, h.go hw k hd⟩⟩
theorem IV.to {D : Nat → Prop} {H : AHeap} {v : AV} {z z' : Int} (h : IV D H v z) (e : z = z') : IV D H v z' := e ▸ h
/-- A number with a sign. -/
def sgn (b : Bool) (n : Nat) : Int := if b then -(n : Int) else n
theorem dig_pos_len {n : Nat} : 0 < (dig n).length ↔ n ≠ 0 := by
  constructor
  · rintro h rfl; rw [dig_zero] at h; simp at h
  · intro h; rw [dig_pos h]; simp
theorem c473 (Dt : D473 T) {D : Nat → Prop} {H : AHeap} (hw : WF H) (hd : ∀ g, D g → g < H.next) {b : Bool} {s : AV} {n : Nat} (hs : Rd D encI 1 H s (dig n)) :
    Calls T 473 [.bool b, s] H fun r H' => Fr H H' ∧ IV D H' r (sgn b n) := by
  refine Calls.fn Dt.pr Dt.fn ?_
  have F0 := Fx.start hw hd (ps := [.rd encI 1 s (dig n)]) ⟨hs, trivial⟩
  have F1 := F0.bx H.next [.bool false, .slc none 0 0 none]
  have sf := hs.sl.form
  have e0 : (bel (sgn b n)) = (b && decide (0 < (dig n).length)) := by
    unfold bel
    cases b
    · simp [sgn]
    · simp [sgn, dig_pos_len]; rw [Bool.eq_iff_iff]; simp; omega
  have e1 : (sgn b n).natAbs = n := by unfold sgn; split <;> omega
  obtain ⟨H2, s2, F2⟩ := F1.stA 0 rfl 2 [.bool (bel (sgn b n)), s] rfl rfl (by simp [sf.1])
  have B : Box H2 H.next H.next [.bool (bel (sgn b n)), s] := F2.o.1
  have fin : Fr H H2 ∧ IV D H2 (.agg [.bool (bel (sgn b n)), s]) (sgn b n) := ⟨F2.end.1, s, rfl, by rw [e1]; exact F2.end.2.1⟩
  rw [e0] at s2 B fin
  cases b
  · simp [ir473] at s2 ⊢
    simp [psem_bld', fill, sf.1, sf.2, splice, s2, ares_cellA (hb := B)]
    exact fin
  · simp [ir473, hs.sl.len] at s2 ⊢
    simp [psem_bld', fill, sf.1, sf.2, splice, s2, ares_cellA (hb := B)]
    exact fin
theorem c487 (Dt : D487 T) {D : Nat → Prop} {H : AHeap} (hw : WF H) (hd : ∀ g, D g → g < H.next) {n : Int} (hn : n.natAbs < 2 ^ 62) :
    Calls T 487 [.int .i64 n] H fun r H' => Fr H H' ∧ IV D H' r n := by
  refine Calls.fn Dt.pr Dt.fn ?_
  have F0 := Fx.start hw hd (ps := []) trivial
  have F1 := F0.bx H.next [.bool false, .slc none 0 0 none]
  have e1 : IntKind.i64.wrap (-n) = -n := wrap_small (by omega) (by omega)
  have e2 : max n (-n) = (n.natAbs : Int) := by omega
  have e3 : decide (n < 0) = bel n := rfl
  simp [ir487, e1, e2, e3]
  refine WC.of (c462 Dt.d462 F1.wf (n := n.natAbs) (by omega)) ?_
  rintro r H2 ⟨fr2, m2⟩
  have F2 := F1.callR fr2 (qs := [.rd encI 1 r (dig n.natAbs)]) ⟨m2.rd F1.dn, trivial⟩
  simp
  refine WC.of (c473 Dt.d473 F2.wf F2.dn F2.p.1) ?_
  rintro r3 H3 ⟨fr3, h3⟩
  obtain ⟨s3, rfl, hs3⟩ := h3.to (z' := n) (by unfold sgn bel; simp; split <;> omega)
  have F3 := F2.callR fr3 (qs := [.rd encI 1 s3 _]) ⟨hs3, trivial⟩
  obtain ⟨H4, s4, F4⟩ := F3.stA 0 rfl 2 [.bool (bel n), s3] rfl rfl (by simp [hs3.sl.form.1])
  have B := F4.o.1
  simp [s4, new_next, ares_cellA (hb := B)]
  exact ⟨F4.end.1, s3, rfl, F4.end.2.1⟩
theorem c481 (Dt : D481 T) {D : Nat → Prop} {H : AHeap} (hw : WF H) (hd : ∀ g, D g → g < H.next) {u : AV} {x : Int} (hu : IV D H u x) :
    Calls T 481 [u] H fun r H' => Fr H H' ∧ IV D H' r (-x) := by
  obtain ⟨s, rfl, hs⟩ := hu
  refine Calls.fn Dt.pr Dt.fn ?_
  have F0 := Fx.start hw hd (ps := [.rd encI 1 s (dig x.natAbs)]) ⟨hs, trivial⟩
  have F2 := (F0.bx H.next [.bool (bel x), s]).bx (H.next + 1) [.bool false, .slc none 0 0 none]
  have B1 : Box _ H.next H.next _ := F2.o.2.1
  simp [ir481, new_next, hs.sl.form.1, B1.at 0 rfl, B1.at 1 rfl]
  refine WC.of (c473 Dt.d473 F2.wf F2.dn F2.p.1) ?_
  rintro r3 H3 ⟨fr3, h3⟩
  obtain ⟨s3, rfl, hs3⟩ := h3.to (z' := -x) (by unfold sgn bel; simp; split <;> omega)
  have F3 := F2.callR fr3 (qs := [.rd encI 1 s3 _]) ⟨hs3, trivial⟩
  obtain ⟨H4, s4, F4⟩ := F3.stA 0 rfl 2 [.bool (bel (-x)), s3] rfl rfl (by simp [hs3.sl.form.1])
  have B := F4.o.1
  simp [s4, new_next, ares_cellA (hb := B)]
  exact ⟨F4.end.1, s3, rfl, F4.end.2.1⟩
theorem c470 (Dt : D470 T) {D : Nat → Prop} {H : AHeap} (hw : WF H) (hd : ∀ g, D g → g < H.next) {u v : AV} {x y : Int} (hu : IV D H u x) (hv : IV D H v y) (hx : (dig x.natAbs).length < 2 ^ 25) (hy : (dig y.natAbs).length < 2 ^ 25) :
    Calls T 470 [u, v] H fun r H' => Fr H H' ∧ IV D H' r (x + y) := by
  obtain ⟨s, rfl, hs⟩ := hu
  obtain ⟨t, rfl, ht⟩ := hv
  refine Calls.fn Dt.pr Dt.fn ?_
  have F0 := Fx.start hw hd (ps := [.rd encI 1 s (dig x.natAbs), .rd encI 1 t (dig y.natAbs)]) ⟨hs, ht, trivial⟩
  have F := ((F0.bx H.next [.bool (bel x), s]).bx (H.next + 1) [.bool (bel y), t]).bx (H.next + 2) [.bool false, .slc none 0 0 none]
  simp [ir470, new_next, Nat.add_assoc, hs.sl.form.1, ht.sl.form.1]
  obtain ⟨X, hX⟩ : ∃ X, ((H.new [.bool (bel x), s]).new [.bool (bel y), t]).new [.bool false, .slc none 0 0 none] = X := ⟨_, rfl⟩
  rw [hX] at F ⊢
  have B2 : Box _ H.next H.next _ := F.o.2.2.1
  have B3 : Box _ (H.next + 1) (H.next + 1) _ := F.o.2.1
  simp [B2.at 0 rfl, B3.at 0 rfl]
  refine WB.bool ?_ ?_
  · intro e
    simp at e
    rw [W_seq]
    refine W_floats ?_
    simp only [WT_cons, WT_nil]
    simp [B2.at 0 rfl, B2.at 1 rfl, B3.at 1 rfl]
    refine WC.of (c460 Dt.d460 F.wf F.p.1.sl F.p.2.1.sl (by omega) (by omega)) ?_
    rintro r X1 ⟨fr1, m1⟩
    have F1 := F.callR fr1 (qs := [.rd encI 1 r _]) ⟨m1.rd F.dn, trivial⟩
    simp
    refine WC.of (c473 Dt.d473 F1.wf F1.dn F1.p.1) ?_
    rintro r3 X2 ⟨fr3, h3⟩
    obtain ⟨s3, rfl, hs3⟩ := h3.to (z' := x + y) (by unfold sgn; unfold bel at e ⊢; simp at e ⊢; split <;> omega)
    have F2 := F1.callR fr3 (qs := [.rd encI 1 s3 _]) ⟨hs3, trivial⟩
    obtain ⟨X4, s4, F4⟩ := F2.stA 0 rfl 2 [.bool (bel (x + y)), s3] rfl rfl (by simp [hs3.sl.form.1])
    have B1' : Box _ H.next H.next _ := F1.o.2.2.1
    have B := F4.o.1
    simp [s4]
    simp [floatOk, wanted, AV.same_refl, B2.at 0 rfl, B1'.at 0 rfl, ares_cellA (hb := B)]
    exact ⟨F4.end.1, s3, rfl, F4.end.2.1⟩
  · intro e
    simp at e
    simp [B2.at 1 rfl, B3.at 1 rfl]
    refine WC.of (c461 Dt.d461 F.p.1.sl F.p.2.1.sl (by omega) (by omega)) ?_
    rintro r X1 ⟨rfl, rfl⟩
    have hcd : (if (dig x.natAbs).length = (dig y.natAbs).length then cmpL (dig x.natAbs) (dig y.natAbs) else ((dig x.natAbs).length : Int) - (dig y.natAbs).length) = cmpD x.natAbs y.natAbs := rfl
    rw [hcd]
    simp
    have hxy : (x < 0) ↔ ¬ (y < 0) := by
      unfold bel at e
      by_cases h1 : x < 0 <;> by_cases h2 : y < 0 <;> simp [h1, h2] at e ⊢
    refine WB.bool ?_ ?_
    · intro hge
      simp at hge
      have hge := cmpD_ge.1 hge
      rw [W_seq]
      refine W_floats ?_
      simp only [WT_cons, WT_nil]
      simp [B2.at 0 rfl, B2.at 1 rfl, B3.at 1 rfl]
      refine WC.of (c477 Dt.d477 F.wf F.p.1.sl F.p.2.1.sl hge (by omega)) ?_
      rintro r X1 ⟨fr1, m1⟩
      have F1 := F.callR fr1 (qs := [.rd encI 1 r _]) ⟨m1.rd F.dn, trivial⟩
      simp
      refine WC.of (c473 Dt.d473 F1.wf F1.dn F1.p.1) ?_
      rintro r3 X2 ⟨fr3, h3⟩
      obtain ⟨s3, rfl, hs3⟩ := h3.to (z' := x + y) (by unfold sgn bel; simp; split <;> omega)
      have F2 := F1.callR fr3 (qs := [.rd encI 1 s3 _]) ⟨hs3, trivial⟩
      obtain ⟨X4, s4, F4⟩ := F2.stA 0 rfl 2 [.bool (bel (x + y)), s3] rfl rfl (by simp [hs3.sl.form.1])
      have B1' : Box _ H.next H.next _ := F1.o.2.2.1
      have B := F4.o.1
      simp [s4]
      simp [floatOk, wanted, AV.same_refl, B2.at 0 rfl, B1'.at 0 rfl, ares_cellA (hb := B)]
      exact ⟨F4.end.1, s3, rfl, F4.end.2.1⟩
    · intro hlt
      simp at hlt
      have hlt : x.natAbs ≤ y.natAbs := by
        have := (cmpD_spec x.natAbs y.natAbs).1.1 hlt
        omega
      simp only [W_seq, W_skip, Wk_seq]
      refine W_floats ?_
      simp only [WT_cons, WT_nil]
      simp [B3.at 0 rfl, B2.at 1 rfl, B3.at 1 rfl]
      refine WC.of (c477 Dt.d477 F.wf F.p.2.1.sl F.p.1.sl hlt (by omega)) ?_
      rintro r X1 ⟨fr1, m1⟩
      have F1 := F.callR fr1 (qs := [.rd encI 1 r _]) ⟨m1.rd F.dn, trivial⟩
      simp
      refine WC.of (c473 Dt.d473 F1.wf F1.dn F1.p.1) ?_
      rintro r3 X2 ⟨fr3, h3⟩
      obtain ⟨s3, rfl, hs3⟩ := h3.to (z' := x + y) (by unfold sgn bel; simp; split <;> omega)
      have F2 := F1.callR fr3 (qs := [.rd encI 1 s3 _]) ⟨hs3, trivial⟩
      obtain ⟨X4, s4, F4⟩ := F2.stA 0 rfl 2 [.bool (bel (x + y)), s3] rfl rfl (by simp [hs3.sl.form.1])
      have B1' : Box _ (H.next + 1) (H.next + 1) _ := F1.o.2.1
      have B := F4.o.1
      simp [s4]
      simp [floatOk, wanted, AV.same_refl, B3.at 0 rfl, B1'.at 0 rfl, ares_cellA (hb := B)]
      exact ⟨F4.end.1, s3, rfl, F4.end.2.1⟩
theorem sgn_mul (x y : Int) : sgn (bel x != bel y) (x.natAbs * y.natAbs) = x * y := by
  rw [← Int.natAbs_mul]
  unfold sgn bel
  have pos : ∀ a b : Int, 0 ≤ a → 0 ≤ b → 0 ≤ a * b := fun a b ha hb => Int.mul_nonneg ha hb
  by_cases hx : x < 0 <;> by_cases hy : y < 0 <;> simp [hx, hy]
  · have := pos (-x) (-y) (by omega) (by omega)
    rw [Int.neg_mul_neg] at this; omega
  · have := pos (-x) y (by omega) (by omega)
    rw [Int.neg_mul] at this; omega
  · have := pos x (-y) (by omega) (by omega)
    rw [Int.mul_neg] at this; omega
  · have := pos x y (by omega) (by omega); omega
theorem c468 (Dt : D468 T) {D : Nat → Prop} {H : AHeap} (hw : WF H) (hd : ∀ g, D g → g < H.next) {u v : AV} {x y : Int} (hu : IV D H u x) (hv : IV D H v y) (hx : (dig x.natAbs).length < 2 ^ 20) (hy : (dig y.natAbs).length < 2 ^ 20) :
    Calls T 468 [u, v] H fun r H' => Fr H H' ∧ IV D H' r (x * y) := by
  obtain ⟨s, rfl, hs⟩ := hu
  obtain ⟨t, rfl, ht⟩ := hv
  refine Calls.fn Dt.pr Dt.fn ?_
  have F0 := Fx.start hw hd (ps := [.rd encI 1 s (dig x.natAbs), .rd encI 1 t (dig y.natAbs)]) ⟨hs, ht, trivial⟩
  have F := ((F0.bx H.next [.bool (bel x), s]).bx (H.next + 1) [.bool (bel y), t]).bx (H.next + 2) [.bool false, .slc none 0 0 none]
  simp [ir468, new_next, Nat.add_assoc, hs.sl.form.1, ht.sl.form.1]
  obtain ⟨X, hX⟩ : ∃ X, ((H.new [.bool (bel x), s]).new [.bool (bel y), t]).new [.bool false, .slc none 0 0 none] = X := ⟨_, rfl⟩
  rw [hX] at F ⊢
  have B2 : Box _ H.next H.next _ := F.o.2.2.1
  have B3 : Box _ (H.next + 1) (H.next + 1) _ := F.o.2.1
  refine W_floats ?_
  simp only [WT_cons, WT_nil]
  simp [B2.at 0 rfl, B2.at 1 rfl, B3.at 0 rfl, B3.at 1 rfl]
  refine WC.of (c478 Dt.d478 F.wf F.p.1.sl F.p.2.1.sl (by omega) (by omega)) ?_
  rintro r X1 ⟨fr1, m1⟩
  have F1 := F.callR fr1 (qs := [.rd encI 1 r _]) ⟨m1.rd F.dn, trivial⟩
  simp
  refine WC.of (c473 Dt.d473 F1.wf F1.dn F1.p.1) ?_
  rintro r3 X2 ⟨fr3, h3⟩
  obtain ⟨s3, rfl, hs3⟩ := h3.to (z' := x * y) (by rw [← sgn_mul x y]; cases bel x <;> cases bel y <;> rfl)
  have F2 := F1.callR fr3 (qs := [.rd encI 1 s3 _]) ⟨hs3, trivial⟩
  obtain ⟨X4, s4, F4⟩ := F2.stA 0 rfl 2 [.bool (bel (x * y)), s3] rfl rfl (by simp [hs3.sl.form.1])
  have B1 : Box _ (H.next + 1) (H.next + 1) _ := F1.o.2.1
  have B1' : Box _ H.next H.next _ := F1.o.2.2.1
  have B := F4.o.1
  simp [s4]
  simp [floatOk, wanted, AV.same_refl, B2.at 0 rfl, B3.at 0 rfl, B1.at 0 rfl, B1'.at 0 rfl, ares_cellA (hb := B)]
  exact ⟨F4.end.1, s3, rfl, F4.end.2.1⟩
/-- Quotient and remainder, rounded down. -/
def qd (x y : Int) : Int := if 0 < y then x / y else (-x) / (-y)
def md (x y : Int) : Int := x - y * qd x y
theorem qd_of {x y q r : Int} (h : x = y * q + r) (hr : 0 < y ∧ 0 ≤ r ∧ r < y ∨ y < 0 ∧ y < r ∧ r ≤ 0) : qd x y = q ∧ md x y = r := by
  have hq : qd x y = q := by
    unfold qd
    rcases hr with ⟨h1, h2, h3⟩ | ⟨h1, h2, h3⟩
    · rw [if_pos h1, h, Int.add_comm, Int.add_mul_ediv_left _ _ (by omega), Int.ediv_eq_zero_of_lt h2 h3, Int.zero_add]
    · rw [if_neg (by omega), h]
      have e : -(y * q + r) = -r + (-y) * q := by rw [Int.neg_mul]; omega
      rw [e, Int.add_mul_ediv_left _ _ (by omega), Int.ediv_eq_zero_of_lt (by omega) (by omega), Int.zero_add]
  refine ⟨hq, ?_⟩
  unfold md
  rw [hq, h]
  omega
theorem over_law {x y : Int} (hy : y ≠ 0) :
    (x.natAbs % y.natAbs ≠ 0 → bel x ≠ bel y → qd x y = sgn (bel x != bel y) (x.natAbs / y.natAbs) - 1 ∧ md x y = sgn (bel x) (x.natAbs % y.natAbs) + y) ∧
    ((x.natAbs % y.natAbs = 0 ∨ bel x = bel y) → qd x y = sgn (bel x != bel y) (x.natAbs / y.natAbs) ∧ md x y = sgn (bel x) (x.natAbs % y.natAbs)) := by
  obtain ⟨q, hq⟩ : ∃ q, x.natAbs / y.natAbs = q := ⟨_, rfl⟩
  obtain ⟨r, hr⟩ : ∃ r, x.natAbs % y.natAbs = r := ⟨_, rfl⟩
  have e := Nat.div_add_mod x.natAbs y.natAbs
  have l : r < y.natAbs := by rw [← hr]; exact Nat.mod_lt _ (by omega)
  rw [hq, hr] at e ⊢
  have e' : (x.natAbs : Int) = y.natAbs * q + r := by exact_mod_cast e.symm
  unfold bel sgn
  obtain ⟨m, hm⟩ : ∃ m : Int, (y.natAbs : Int) = m := ⟨_, rfl⟩
  rw [hm] at e'
  have key : m * -(q : Int) = -(m * q) := by rw [Int.mul_neg]
  have key2 : -m * (q : Int) = -(m * q) := by rw [Int.neg_mul]
  have key3 : -m * -(q : Int) = m * q := by rw [Int.neg_mul_neg]
  have key4 : m * (-(q : Int) - 1) = -(m * q) - m := by rw [Int.mul_sub, Int.mul_neg, Int.mul_one]
  have key5 : -m * (-(q : Int) - 1) = m * q + m := by rw [Int.mul_sub, Int.neg_mul_neg, Int.mul_one]; omega
  refine ⟨fun h1 h2 => ?_, fun h1 => ?_⟩
  · by_cases hx : x < 0 <;> by_cases hy2 : y < 0 <;> simp [hx, hy2] at h2 ⊢
    · refine qd_of ?_ (.inl ⟨by omega, by omega, by omega⟩)
      rw [show y = m by omega, key4]; omega
    · refine qd_of ?_ (.inr ⟨by omega, by omega, by omega⟩)
      rw [show y = -m by omega, key5]; omega
  · by_cases hx : x < 0 <;> by_cases hy2 : y < 0 <;> simp [hx, hy2] at h1 ⊢
    · refine qd_of ?_ (.inr ⟨by omega, by omega, by omega⟩)
      rw [show y = -m by omega, key2]; omega
    · refine qd_of ?_ (.inl ⟨by omega, by omega, by omega⟩)
      rw [show y = m by omega, key]; omega
    · refine qd_of ?_ (.inr ⟨by omega, by omega, by omega⟩)
      rw [show y = -m by omega, key3]; omega
    · refine qd_of ?_ (.inl ⟨by omega, by omega, by omega⟩)
      rw [show y = m by omega]; omega
theorem IV.box {D : Nat → Prop} {H : AHeap} {v : AV} {z : Int} (h : IV D H v z) : ∃ s, v = .agg [.bool (bel z), s] ∧ s.cell = true ∧ Rd D encI 1 H s (dig z.natAbs) := by
  obtain ⟨s, e, h⟩ := h; exact ⟨s, e, h.sl.form.1, h⟩
theorem dig_small {n : Nat} (h : n < 10) : (dig n).length ≤ 1 := dig_len_le (by omega)
theorem sgn_abs (b : Bool) (n : Nat) : (sgn b n).natAbs = n := by unfold sgn; split <;> omega
theorem c466 (Dt : D466 T) {D : Nat → Prop} {H : AHeap} (hw : WF H) (hd : ∀ g, D g → g < H.next) {u v : AV} {x y : Int} (hu : IV D H u x) (hv : IV D H v y) (hy0 : y ≠ 0) (hx : (dig x.natAbs).length < 2 ^ 24) (hy : (dig y.natAbs).length < 2 ^ 24) :
    Calls T 466 [u, v] H fun r H' => Fr H H' ∧ ∃ q w, r = .tup [q, w] ∧ IV D H' q (qd x y) ∧ IV D H' w (md x y) := by
  obtain ⟨s, rfl, hs⟩ := hu
  obtain ⟨t, rfl, ht⟩ := hv
  refine Calls.fn Dt.pr Dt.fn ?_
  have F0 := Fx.start hw hd (ps := [.rd encI 1 s (dig x.natAbs), .rd encI 1 t (dig y.natAbs)]) ⟨hs, ht, trivial⟩
  have F := (((F0.bx H.next [.bool (bel x), s]).bx (H.next + 1) [.bool (bel y), t]).bx (H.next + 2) [.bool false, .slc none 0 0 none]).bx (H.next + 3) [.bool false, .slc none 0 0 none]
  simp [ir466, new_next, Nat.add_assoc, hs.sl.form.1, ht.sl.form.1]
  obtain ⟨X, hX⟩ : ∃ X, (((H.new [.bool (bel x), s]).new [.bool (bel y), t]).new [.bool false, .slc none 0 0 none]).new [.bool false, .slc none 0 0 none] = X := ⟨_, rfl⟩
  rw [hX] at F ⊢
  have B2 : Box _ H.next H.next _ := F.o.2.2.2.1
  have B3 : Box _ (H.next + 1) (H.next + 1) _ := F.o.2.2.1
  simp [B2.at 1 rfl, B3.at 1 rfl]
  refine WC.of (c459 Dt.d459 F.wf F.p.1.sl F.p.2.1.sl (by omega) (by omega) (by omega)) ?_
  rintro r X1 ⟨fr1, q, w, rfl, mq, mw⟩
  have F1 := F.callR fr1 (qs := [.rd encI 1 q _, .rd encI 1 w _]) ⟨mq.rd F.dn, mw.rd F.dn, trivial⟩
  simp
  have A2 : Box _ H.next H.next _ := F1.o.2.2.2.1
  have A3 : Box _ (H.next + 1) (H.next + 1) _ := F1.o.2.2.1
  refine W_floats ?_
  simp only [WT_cons, WT_nil]
  simp [-Wk_seq, A2.at 0 rfl, A3.at 0 rfl]
  refine WC.of (c473 Dt.d473 F1.wf F1.dn F1.p.1) ?_
  rintro r8 X2 ⟨fr2, h8⟩
  obtain ⟨z1, hz1⟩ : ∃ z1, sgn (!bel x == bel y) (x.natAbs / y.natAbs) = z1 := ⟨_, rfl⟩
  rw [hz1] at h8
  obtain ⟨s8, rfl, c8, hs8⟩ := h8.box
  have F2 := F1.callR fr2 (qs := [.rd encI 1 s8 _]) ⟨hs8, trivial⟩
  have C2 : Box _ H.next H.next _ := F2.o.2.2.2.1
  have C3 : Box _ (H.next + 1) (H.next + 1) _ := F2.o.2.2.1
  simp [-Wk_seq, C2.at 0 rfl]
  refine WC.of (c473 Dt.d473 F2.wf F2.dn F2.p.2.2.1) ?_
  rintro r9 X3 ⟨fr3, h9⟩
  obtain ⟨z2, hz2⟩ : ∃ z2, sgn (bel x) (x.natAbs % y.natAbs) = z2 := ⟨_, rfl⟩
  rw [hz2] at h9
  obtain ⟨s9, rfl, c9, hs9⟩ := h9.box
  have F3 := F2.callR fr3 (qs := [.rd encI 1 s9 _]) ⟨hs9, trivial⟩
  have E2 : Box _ H.next H.next _ := F3.o.2.2.2.1
  have E3 : Box _ (H.next + 1) (H.next + 1) _ := F3.o.2.2.1
  have F4 := F3.bx X3.next [.bool false, .slc none 0 0 none]
  have F5 := F4.bx (X3.next + 1) [.bool false, .slc none 0 0 none]
  have G2 : Box _ H.next H.next _ := F4.o.2.2.2.2.1
  have G3 : Box _ (H.next + 1) (H.next + 1) _ := F4.o.2.2.2.1
  have I2 : Box _ H.next H.next _ := F5.o.2.2.2.2.2.1
  have I3 : Box _ (H.next + 1) (H.next + 1) _ := F5.o.2.2.2.2.1
  obtain ⟨X6, s6, F6⟩ := F5.stA 1 rfl 2 [.bool (bel z1), s8] rfl rfl (by simp [c8])
  obtain ⟨X7, s7, F7⟩ := F6.stA 0 rfl 2 [.bool (bel z2), s9] rfl rfl (by simp [c9])
  simp [-Wk_seq, new_next, s6, s7]
  simp [-Wk_seq, floatOk, wanted, AV.same_refl, B2.at 0 rfl, B3.at 0 rfl, A2.at 0 rfl, A3.at 0 rfl, C2.at 0 rfl, C3.at 0 rfl, E2.at 0 rfl, E3.at 0 rfl, G2.at 0 rfl, G3.at 0 rfl, I2.at 0 rfl, I3.at 0 rfl]
  rw [Wk_seq]
  have len1 : (dig z1.natAbs).length < 2 ^ 24 := by
    rw [← hz1, sgn_abs]; exact Nat.lt_of_le_of_lt (dig_len_mono (Nat.div_le_self _ _)) hx
  have len2 : (dig z2.natAbs).length < 2 ^ 24 := by
    rw [← hz2, sgn_abs]; exact Nat.lt_of_le_of_lt (dig_len_mono (Nat.mod_le _ _)) hx
  have law := over_law (x := x) (y := y) hy0
  refine W_cut (fun e Y => e 8 = .ptr (some (X3.next, 0)) ∧ e 9 = .ptr (some (X3.next + 1, 0)) ∧ e 4 = .ptr (some (H.next + 2, 0)) ∧ e 5 = .ptr (some (H.next + 3, 0)) ∧ ∃ sq sr, sq.cell = true ∧ sr.cell = true ∧ Fx H D [.box (X3.next + 1) [.bool (bel (md x y)), sr], .box X3.next [.bool (bel (qd x y)), sq], .box (H.next + 3) [.bool false, .slc none 0 0 none], .box (H.next + 2) [.bool false, .slc none 0 0 none]] [.rd encI 1 sq (dig (qd x y).natAbs), .rd encI 1 sr (dig (md x y).natAbs)] Y) ?_ ?_
  · have lw : psem .len [w] = some (.int .i64 (dig (x.natAbs % y.natAbs)).length) := mw.sl.len
    have K2 : Box _ H.next H.next _ := F7.o.2.2.2.2.2.1
    have K3 : Box _ (H.next + 1) (H.next + 1) _ := F7.o.2.2.2.2.1
    have K8 : Box _ X3.next X3.next _ := F7.o.2.1
    have K9 : Box _ (X3.next + 1) (X3.next + 1) _ := F7.o.1
    by_cases h0 : x.natAbs % y.natAbs = 0
    · have e0 : (dig (x.natAbs % y.natAbs)).length = 0 := by rw [h0, dig_zero]; rfl
      rw [e0] at lw
      simp [lw]
      obtain ⟨l1, l2⟩ := law.2 (.inl h0)
      have q1 : qd x y = z1 := by rw [l1, ← hz1]; cases bel x <;> cases bel y <;> rfl
      rw [l2, hz2, q1]
      exact ⟨s8, c8, s9, c9, (F7.pbs (qs := [.rd encI 1 s8 _, .rd encI 1 s9 _]) ⟨F7.p.2.1, F7.p.1, trivial⟩).take 4⟩
    · have e0 := dig_pos_len.2 h0
      simp [lw, e0, K2.at 0 rfl, K3.at 0 rfl]
      refine WB.bool ?_ ?_
      · intro hne
        have hne : bel x ≠ bel y := by revert hne; cases bel x <;> cases bel y <;> simp
        obtain ⟨l1, l2⟩ := law.1 h0 hne
        refine W_floats ?_
        simp only [WT_cons, WT_nil]
        simp [K8.all 2 rfl]
        refine WC.of (c487 Dt.d487 F7.wf F7.dn (by omega)) ?_
        rintro r40 Y1 ⟨fry1, hm1⟩
        have Y1F := F7.callR fry1 (qs := [.iv r40 (-1)]) ⟨hm1, trivial⟩
        simp
        refine WC.of (c470 Dt.d470 Y1F.wf Y1F.dn ⟨s8, rfl, Y1F.p.2.2.1⟩ Y1F.p.1 (by omega) (Nat.lt_of_le_of_lt (dig_small (by decide)) (by decide))) ?_
        rintro r41 Y2 ⟨fry2, hm2⟩
        have e1 : z1 + -1 = qd x y := by rw [l1, ← hz1]; cases bel x <;> cases bel y <;> simp <;> omega
        obtain ⟨sq, rfl, cq, hsq⟩ := (hm2.to e1).box
        have Y2F := Y1F.callR fry2 (qs := [.rd encI 1 sq _]) ⟨hsq, trivial⟩
        have L9 : Box _ (X3.next + 1) (X3.next + 1) _ := Y2F.o.1
        have L3 : Box _ (H.next + 1) (H.next + 1) _ := Y2F.o.2.2.2.2.1
        have M9 : Box _ (X3.next + 1) (X3.next + 1) _ := Y1F.o.1
        have M8 : Box _ X3.next X3.next _ := Y1F.o.2.1
        have M3 : Box _ (H.next + 1) (H.next + 1) _ := Y1F.o.2.2.2.2.1
        simp [L9.all 2 rfl, L3.all 2 rfl]
        refine WC.of (c470 Dt.d470 Y2F.wf Y2F.dn ⟨s9, rfl, Y2F.p.2.2.1⟩ ⟨t, rfl, Y2F.p.2.2.2.2.2.2.2.1⟩ (by omega) (by omega)) ?_
        rintro r44 Y3 ⟨fry3, hm3⟩
        obtain ⟨sr, rfl, cr, hsr⟩ := (hm3.to (z' := md x y) (by rw [l2, hz2])).box
        have Y3F := Y2F.callR fry3 (qs := [.rd encI 1 sr _]) ⟨hsr, trivial⟩
        obtain ⟨Y4, t4, Y4F⟩ := Y3F.stA 1 rfl 2 [.bool (bel (qd x y)), sq] rfl rfl (by simp [cq])
        obtain ⟨Y5, t5, Y5F⟩ := Y4F.stA 0 rfl 2 [.bool (bel (md x y)), sr] rfl rfl (by simp [cr])
        simp [t4, t5]
        simp [floatOk, wanted, AV.same_refl, K8.all 2 rfl, K9.all 2 rfl, K3.all 2 rfl, L9.all 2 rfl, L3.all 2 rfl, M9.all 2 rfl, M3.all 2 rfl, M8.all 2 rfl]
        exact ⟨sq, cq, sr, cr, (Y5F.pbs (qs := [.rd encI 1 sq _, .rd encI 1 sr _]) ⟨Y5F.p.2.1, Y5F.p.1, trivial⟩).take 4⟩
      · intro heq
        have heq : bel x = bel y := by revert heq; cases bel x <;> cases bel y <;> simp
        obtain ⟨l1, l2⟩ := law.2 (.inr heq)
        have q1 : qd x y = z1 := by rw [l1, ← hz1]; cases bel x <;> cases bel y <;> rfl
        rw [l2, hz2, q1]
        simp
        exact ⟨s8, c8, s9, c9, (F7.pbs (qs := [.rd encI 1 s8 _, .rd encI 1 s9 _]) ⟨F7.p.2.1, F7.p.1, trivial⟩).take 4⟩
  · rintro e Y ⟨h8, h9, h4, h5, sq, sr, cq, cr, FY⟩
    have K8 : Box _ X3.next X3.next _ := FY.o.2.1
    have K9 : Box _ (X3.next + 1) (X3.next + 1) _ := FY.o.1
    obtain ⟨Y4, t4, Y4F⟩ := FY.stA 3 rfl 2 [.bool (bel (qd x y)), sq] rfl rfl (by simp [cq])
    obtain ⟨Y5, t5, Y5F⟩ := Y4F.stA 2 rfl 2 [.bool (bel (md x y)), sr] rfl rfl (by simp [cr])
    have N9 : Box _ (X3.next + 1) (X3.next + 1) _ := Y4F.o.1
    have O4 : Box _ (H.next + 2) (H.next + 2) _ := Y5F.o.2.2.2.1
    have O5 : Box _ (H.next + 3) (H.next + 3) _ := Y5F.o.2.2.1
    simp only [W_seq]
    refine W_floats ?_
    simp only [WT_cons, WT_nil]
    simp [h8, h9, h4, h5, K8.all 2 rfl, K9.all 2 rfl, t4, t5]
    simp [floatOk, wanted, AV.same_refl, h9, K9.all 2 rfl, N9.all 2 rfl, h4, h5, ares_cellA (hb := O4), ares_cellA (hb := O5)]
    exact ⟨Y5F.end.1, _, _, ⟨rfl, rfl⟩, ⟨sq, rfl, Y5F.end.2.1⟩, ⟨sr, rfl, Y5F.end.2.2.1⟩⟩
end Go.Am

/- Contracts of package strings: prefixes, trimming by sets of ASCII signs. -/
set_option linter.unusedVariables false
set_option linter.unusedSimpArgs false
namespace Go.Am
variable {T : Tab}
theorem c256 (Dt : D256 T) {H : AHeap} {s t : List UInt8} : Calls T 256 [.str s, .str t] H fun r H' => H' = H ∧ r = .bool (decide (s.take t.length = t)) := by
  refine Calls.fn Dt.pr Dt.fn ?_
  simp [ir256]
  by_cases h : t.length ≤ s.length
  · simp [h]
  · simp [h]
    intro e
    have := congrArg List.length e
    simp at this
    omega
/-- A text without its beginning. -/
def cutP (s t : List UInt8) : List UInt8 × Bool := if s.take t.length = t then (s.drop t.length, true) else (s, false)
theorem cutP_len (s t : List UInt8) : (cutP s t).1.length ≤ s.length := by unfold cutP; split <;> simp
theorem c504 (Dt : D504 T) {H : AHeap} {s t : List UInt8} : Calls T 504 [.str s, .str t] H fun r H' => H' = H ∧ r = .tup [.str (cutP s t).1, .bool (cutP s t).2] := by
  refine Calls.fn Dt.pr Dt.fn ?_
  simp [ir504]
  refine WC.of (c256 Dt.d256) ?_
  rintro r H' ⟨rfl, rfl⟩
  simp
  refine WB.bool ?_ ?_
  · intro h
    simp at h
    simp [h, cutP]
  · intro h
    simp at h
    have hl : t.length ≤ s.length := by
      have := congrArg List.length h
      simp at this
      omega
    simp [h, hl, cutP]
theorem c498 (Dt : D498 T) {H : AHeap} {s t : List UInt8} : Calls T 498 [.str s, .str t] H fun r H' => H' = H ∧ r = .tup [.str (cutP s t).1, .bool (cutP s t).2] := by
  refine Calls.fn Dt.pr Dt.fn ?_
  simp [ir498]
  refine WC.of (c504 Dt.d504) ?_
  rintro r H' ⟨rfl, rfl⟩
  simp
/-- A set of signs. -/
def ascL (cs : List UInt8) : List AV := (List.range 256).map fun i => .bool (cs.any fun c => c.toNat == i)
theorem ascL_len (cs : List UInt8) : (ascL cs).length = 256 := by simp [ascL]
theorem ascL_get (cs : List UInt8) (c : UInt8) : (ascL cs)[c.toNat]? = some (.bool (cs.contains c)) := by
  have h : c.toNat < 256 := c.toNat_lt
  unfold ascL
  rw [List.getElem?_map, List.getElem?_range h]
  simp only [Option.map_some]
  congr 2
  rw [Bool.eq_iff_iff]
  simp only [List.any_eq_true, beq_iff_eq, List.contains_iff_mem]
  constructor
  · rintro ⟨d, hd, e⟩
    have : d = c := UInt8.toNat_inj.1 e
    rwa [← this]
  · intro h; exact ⟨c, h, rfl⟩
theorem ascL_set (cs : List UInt8) (c : UInt8) : (ascL cs).set c.toNat (.bool true) = ascL (cs ++ [c]) := by
  unfold ascL
  apply List.ext_getElem
  · simp
  · intro i h1 h2
    rw [List.getElem_set]
    simp only [List.getElem_map, List.getElem_range]
    split
    · rename_i e
      subst e
      simp
    · rename_i e
      congr 1
      simp [e]
theorem ascL_all (cs : List UInt8) : (ascL cs).all AV.cell = true := by
  rw [List.all_eq_true]
  intro x hx
  obtain ⟨i, _, rfl⟩ := List.mem_map.1 hx
  rfl
theorem ascL_nil : ascL [] = List.replicate 256 (.bool false) := by
  apply List.ext_getElem
  · rw [ascL_len, List.length_replicate]
  · intro i h1 h2
    rw [List.getElem_replicate]
    simp only [ascL, List.getElem_map]
    rfl
theorem c512 (Dt : D512 T) {H : AHeap} {b : Nat} {cs : List UInt8} {c : UInt8} (hb : Box H b b (ascL cs)) : Calls T 512 [.ptr (some (b, 0)), .int .u8 c.toNat] H fun r H' => H' = H ∧ r = .bool (cs.contains c) := by
  refine Calls.fn Dt.pr Dt.fn ?_
  have h : (c.toNat : Int) < 256 := by have := c.toNat_lt; omega
  have e := hb.at c.toNat (ascL_get cs c)
  simp [ir512, h, e]
/-- Trimmed at its ends. -/
def trimR (cs s : List UInt8) : List UInt8 := (s.reverse.dropWhile fun c => cs.contains c).reverse
def trimL (cs s : List UInt8) : List UInt8 := s.dropWhile fun c => cs.contains c
theorem trimR_snoc (cs s : List UInt8) (c : UInt8) : trimR cs (s ++ [c]) = if cs.contains c then trimR cs s else s ++ [c] := by
  unfold trimR
  rw [List.reverse_append]
  simp only [List.reverse_singleton, List.singleton_append, List.dropWhile_cons]
  split <;> simp
theorem c508 (Dt : D508 T) {H : AHeap} {b : Nat} {cs s : List UInt8} (hb : Box H b b (ascL cs)) (hs : s.length < 2 ^ 60) : Calls T 508 [.str s, .ptr (some (b, 0))] H fun r H' => H' = H ∧ r = .str (trimL cs s) := by
  refine Calls.fn Dt.pr Dt.fn ?_
  simp [ir508]
  refine W_loop (fun (i : Nat) e H' => H' = H ∧ e 1 = .ptr (some (b, 0)) ∧ ∃ s', e 0 = .str s' ∧ s'.length = i ∧ trimL cs s' = trimL cs s) id s.length ?_ ?_
  · exact ⟨rfl, rfl, s, rfl, rfl, rfl⟩
  · rintro i e H' ⟨rfl, h1, s', h0, hl, ht⟩
    simp [h0]
    cases s' with
    | nil => simp [h0]; rw [← ht]; rfl
    | cons c s' =>
      have hn : nth (c :: s') 0 = c := rfl
      have hp : (0 : Int) < (s'.length : Int) + 1 := by omega
      have hp2 : (1 : Int) ≤ (s'.length : Int) + 1 := by omega
      simp [h0, h1, hn, hp]
      refine WC.of (c512 Dt.d512 hb) ?_
      rintro r H2 ⟨rfl, rfl⟩
      by_cases hc : c ∈ cs
      · simp [hc, h0, h1, hp2]
        exact ⟨s'.length, by rw [← hl]; exact Nat.lt_succ_self _, rfl, by rw [← ht]; unfold trimL; rw [List.dropWhile_cons, if_pos (by simpa using hc)]⟩
      ·
        simp [hc, h0]
        rw [← ht]
        unfold trimL
        rw [List.dropWhile_cons, if_neg (by simpa using hc)]
theorem c509 (Dt : D509 T) {H : AHeap} {b : Nat} {cs s : List UInt8} (hb : Box H b b (ascL cs)) (hs : s.length < 2 ^ 60) : Calls T 509 [.str s, .ptr (some (b, 0))] H fun r H' => H' = H ∧ r = .str (trimR cs s) := by
  refine Calls.fn Dt.pr Dt.fn ?_
  simp [ir509]
  refine W_loop (fun (i : Nat) e H' => H' = H ∧ e 1 = .ptr (some (b, 0)) ∧ ∃ s', e 0 = .str s' ∧ s'.length = i ∧ i ≤ s.length ∧ trimR cs s' = trimR cs s) id s.length ?_ ?_
  · exact ⟨rfl, rfl, s, rfl, rfl, Nat.le_refl _, rfl⟩
  · rintro i e H' ⟨rfl, h1, s', h0, hl, hle, ht⟩
    simp [h0]
    rcases List.eq_nil_or_concat s' with rfl | ⟨s', c, rfl⟩
    · simp [h0]; rw [← ht]; rfl
    · simp at hl
      have e1 : IntKind.i64.wrap ((s'.length : Int) + 1 - 1) = s'.length := by rw [wrap_small (by omega) (by omega)]; omega
      have e2 : IntKind.i64.wrap (s'.length : Int) = s'.length := wrap_small (by omega) (by omega)
      have hn : nth (s' ++ [c]) (s'.length : Int) = c := by simp [nth]
      have hp : (0 : Int) < (s'.length : Int) + 1 := by omega
      have hp2 : (s'.length : Int) < (s'.length : Int) + 1 := by omega
      have hp3 : (s'.length : Int) ≤ (s'.length : Int) + 1 := by omega
      simp [h0, h1, hn, hp, hp2, e1, e2]
      refine WC.of (c512 Dt.d512 hb) ?_
      rintro r H2 ⟨rfl, rfl⟩
      rw [List.concat_eq_append, trimR_snoc] at ht
      by_cases hc : c ∈ cs
      · simp [hc, h0, h1, hp3, e1, e2]
        rw [if_pos (by simpa using hc)] at ht
        exact ⟨s'.length, by omega, rfl, by omega, ht⟩
      · simp [hc, h0]
        rw [← ht, if_neg (by simpa using hc)]
theorem c507 (Dt : D507 T) {H : AHeap} (hw : WF H) {s : List UInt8} (hs : s.length < 2 ^ 60) (ha : ∀ c ∈ s, c.toNat < 128) : Calls T 507 [.str s] H fun r H' => Fr H H' ∧ r = .tup [.agg (ascL s), .bool true] := by
  refine Calls.fn Dt.pr Dt.fn ?_
  have F := (Fx.start hw (D := fun _ => False) (fun _ h => h.elim) (ps := []) trivial).bx H.next (ascL [])
  have e0 : List.replicate 256 (AV.bool false) = ascL [] := ascL_nil.symm
  have ac := ascL_all []
  unfold ir507
  rw [e0]
  simp only [W_seq, W_region, WO_mk, List.map_cons, List.map_nil, ev_c, WX_box, wsem0_boxA ac, WW_some]
  simp
  refine W_loop (fun (i : Nat) e H' => e 0 = .str s ∧ e 2 = .ptr (some (H.next, 0)) ∧ ∃ j : Nat, i + j = s.length ∧ e 4 = .int .i64 j ∧ Fx H (fun _ => False) [.box H.next (ascL (s.take j))] [] H') id s.length ?_ ?_
  · exact ⟨rfl, rfl, 0, by simp, rfl, by simpa using F⟩
  · rintro i e H' ⟨h0, h2, j, hj, h4, Fj⟩
    have B : Box H' H.next H.next _ := Fj.o.1
    simp [h0, h4]
    refine WB.bool ?_ ?_
    · intro hlt
      simp at hlt
      obtain ⟨c, hc⟩ : ∃ c, nth s (j : Int) = c := ⟨_, rfl⟩
      have hmem : c ∈ s := by rw [← hc]; simp [nth, hlt]
      have hc128 := ha c hmem
      have hn : ¬ (128 : Int) ≤ (c.toNat : Int) := by omega
      have hc256 : (c.toNat : Int) < 256 := by omega
      obtain ⟨H2, s2, F2⟩ := Fj.st1 0 rfl c.toNat (.bool true) rfl (by rw [ascL_len]; omega)
      rw [ascL_set] at F2
      simp [h0, h2, h4, hlt, hc, hn, hc256, s2]
      rw [wrap_small (by omega) (by omega)]
      refine ⟨s.length - (j + 1), by omega, j + 1, by omega, by simp, ?_⟩
      rw [take_nth hlt, hc]
      exact F2
    · intro hge
      simp at hge
      rw [List.take_of_length_le hge] at B Fj
      obtain ⟨H2, s2, F2⟩ := Fj.stA 0 rfl 256 (ascL s) (ascL_len _) (ascL_len _) (ascL_all _)
      have B2 : Box H2 H.next H.next _ := F2.o.1
      simp [h2, B.all 256 (ascL_len _), s2, ares_cellA (hb := B2) (hn := ascL_len _)]
      exact F2.fr
theorem c499 (Dt : D499 T) {H : AHeap} (hw : WF H) {s cs : List UInt8} (hs : s.length < 2 ^ 60) (hl : cs.length < 2 ^ 60) (h2 : 2 ≤ cs.length) (ha : ∀ c ∈ cs, c.toNat < 128) : Calls T 499 [.str s, .str cs] H fun r H' => Fr H H' ∧ r = .str (trimL cs (trimR cs s)) := by
  refine Calls.fn Dt.pr Dt.fn ?_
  have hne : cs ≠ [] := by rintro rfl; simp at h2
  have hl1 : ¬ (cs.length : Int) = 1 := by omega
  unfold ir499
  have e0 : List.replicate 256 (AV.bool false) = ascL [] := ascL_nil.symm
  rw [e0]
  by_cases h0 : s = []
  · subst h0
    simp
    exact ⟨.refl hw, rfl⟩
  · simp [h0, hne, hl1]
    refine WC.of (c507 Dt.d507 hw hl ha) ?_
    rintro r X ⟨fr, rfl⟩
    have F := ((Fx.start hw (D := fun _ => False) (fun _ h => h.elim) (ps := []) trivial).call fr).bx X.next (ascL [])
    have ac := ascL_all []
    obtain ⟨H2, s2, F2⟩ := F.stA 0 rfl 256 (ascL cs) (ascL_len _) (ascL_len _) (ascL_all _)
    have B2 : Box H2 X.next X.next _ := F2.o.1
    simp [-wsem0_box, wsem0_boxA ac, s2]
    refine WC.of (c509 Dt.d509 B2 hs) ?_
    rintro r Y ⟨rfl, rfl⟩
    simp
    refine WC.of (c508 Dt.d508 B2 ?_) ?_
    · refine Nat.lt_of_le_of_lt ?_ hs
      unfold trimR
      rw [List.length_reverse, ← List.length_reverse (as := s)]
      exact (List.dropWhile_sublist _).length_le
    rintro r Y ⟨rfl, rfl⟩
    simp
    exact F2.fr
end Go.Am

/- Contracts of package big: numbers are read. -/
set_option linter.unusedVariables false
set_option linter.unusedSimpArgs false
namespace Go.Am
variable {T : Tab}
/-! ### The plain law -/
def digB (c : UInt8) : Bool := decide (48 ≤ c.toNat) && decide (c.toNat ≤ 57)
def valS (d : List UInt8) : Nat := d.foldl (fun a c => 10 * a + (c.toNat - 48)) 0
def dl (d : List UInt8) : List Int := d.map fun c => ((c.toNat - 48 : Nat) : Int)
def digits10 : List UInt8 := [48, 49, 50, 51, 52, 53, 54, 55, 56, 57]
/-- The number of a text. -/
def readD (d : List UInt8) (neg : Bool) : Option Int :=
  if d = [48] ∧ neg = false then some 0
  else if d = [] ∨ d.head? = some 48 ∨ 400 < d.length ∨ d.all digB = false then none
  else some (sgn neg (valS d))
def readS (s : List UInt8) : Option Int := readD (cutP s [45]).1 (cutP s [45]).2
theorem u8_48 {c : UInt8} : c = 48 ↔ c.toNat = 48 := by rw [← UInt8.toNat_inj]; rfl
theorem valS_snoc (d : List UInt8) (c : UInt8) : valS (d ++ [c]) = 10 * valS d + (c.toNat - 48) := by simp [valS]
theorem contains10 (c : UInt8) : digits10.contains c = digB c := by
  rw [Bool.eq_iff_iff]
  simp only [digits10, digB, List.contains_iff_mem, Bool.and_eq_true, decide_eq_true_eq]
  have h := c.toNat_lt
  have e : ∀ n : Nat, n < 256 → (c = UInt8.ofNat n ↔ c.toNat = n) := by
    intro n hn
    rw [← UInt8.toNat_inj, UInt8.toNat_ofNat', Nat.mod_eq_of_lt (by simpa using hn)]
  simp only [List.mem_cons, List.not_mem_nil, or_false]
  have f : ∀ n : Nat, n < 256 → (c = (UInt8.ofNat n) ↔ c.toNat = n) := e
  rw [show (48 : UInt8) = UInt8.ofNat 48 from rfl, show (49 : UInt8) = UInt8.ofNat 49 from rfl, show (50 : UInt8) = UInt8.ofNat 50 from rfl, show (51 : UInt8) = UInt8.ofNat 51 from rfl, show (52 : UInt8) = UInt8.ofNat 52 from rfl, show (53 : UInt8) = UInt8.ofNat 53 from rfl, show (54 : UInt8) = UInt8.ofNat 54 from rfl, show (55 : UInt8) = UInt8.ofNat 55 from rfl, show (56 : UInt8) = UInt8.ofNat 56 from rfl, show (57 : UInt8) = UInt8.ofNat 57 from rfl]
  rw [f 48 (by decide), f 49 (by decide), f 50 (by decide), f 51 (by decide), f 52 (by decide), f 53 (by decide), f 54 (by decide), f 55 (by decide), f 56 (by decide), f 57 (by decide)]
  omega
theorem dig_dl {d : List UInt8} : d ≠ [] → d.head? ≠ some 48 → d.all digB = true → valS d ≠ 0 ∧ dig (valS d) = dl d := by
  have key : ∀ (n : Nat) (d : List UInt8), d.length = n → d ≠ [] → d.head? ≠ some 48 → d.all digB = true → valS d ≠ 0 ∧ dig (valS d) = dl d := by
    intro n
    induction n with
    | zero => intro d hl h; exact absurd (List.eq_nil_of_length_eq_zero hl) h
    | succ n ih =>
      intro d hl h0 h1 h2
      rcases List.eq_nil_or_concat d with rfl | ⟨d, c, rfl⟩
      · exact absurd rfl h0
      · rw [List.concat_eq_append] at *
        simp only [List.all_append, List.all_cons, List.all_nil, Bool.and_true, Bool.and_eq_true] at h2
        have hc := h2.2
        simp only [digB, Bool.and_eq_true, decide_eq_true_eq] at hc
        rw [valS_snoc]
        by_cases hd : d = []
        · subst hd
          have hne : c.toNat - 48 ≠ 0 := by
            intro e
            apply h1
            have : c = 48 := u8_48.2 (by omega)
            rw [this]; rfl
          have e : 10 * valS [] + (c.toNat - 48) = c.toNat - 48 := by simp [valS]
          rw [e]
          refine ⟨hne, ?_⟩
          rw [dig_pos hne, show (c.toNat - 48) / 10 = 0 by omega, dig_zero, show (c.toNat - 48) % 10 = c.toNat - 48 by omega]
          rfl
        · have h1' : d.head? ≠ some 48 := by
            intro e
            apply h1
            cases d with
            | nil => exact absurd rfl hd
            | cons a d => simpa using e
          obtain ⟨i1, i2⟩ := ih d (by simpa using hl) hd h1' h2.1
          refine ⟨by omega, ?_⟩
          rw [dig_pos (by omega), show (10 * valS d + (c.toNat - 48)) / 10 = valS d by omega, show (10 * valS d + (c.toNat - 48)) % 10 = c.toNat - 48 by omega, i2]
          simp [dl]
  exact key d.length d rfl
theorem dropWhile_nil {α : Type} (p : α → Bool) : ∀ l : List α, l.dropWhile p = [] ↔ l.all p = true
  | [] => by simp
  | a :: l => by
    rw [List.dropWhile_cons]
    by_cases h : p a = true
    · rw [if_pos h, dropWhile_nil p l]; simp [h]
    · rw [if_neg h]; simp [h]
theorem trim_nil (cs s : List UInt8) : trimL cs (trimR cs s) = [] ↔ (s.all fun c => cs.contains c) = true := by
  unfold trimL
  rw [dropWhile_nil]
  unfold trimR
  rw [List.all_reverse]
  constructor
  · intro h
    have h2 : (s.reverse.dropWhile fun c => cs.contains c) = [] := by
      cases e : s.reverse.dropWhile fun c => cs.contains c with
      | nil => rfl
      | cons a l =>
        have h3 := List.head?_dropWhile_not (fun c => cs.contains c) s.reverse
        rw [e] at h3 h
        simp only [List.head?_cons, List.all_cons, Bool.and_eq_true] at h3 h
        have h4 := h.1
        simp at h3 h4
        exact absurd h4 h3
    rw [dropWhile_nil, List.all_reverse] at h2
    exact h2
  · intro h
    have h2 : (s.reverse.dropWhile fun c => cs.contains c) = [] := by rw [dropWhile_nil, List.all_reverse]; exact h
    rw [h2]; rfl
/-- What reading gives. -/
def readV (D : Nat → Prop) (H : AHeap) (r : AV) (z : Option Int) : Prop :=
  match z with
  | some z => ∃ v, r = .tup [v, .bool true] ∧ IV D H v z
  | none => r = .tup [.agg [.bool false, .slc none 0 0 none], .bool false]
theorem IV_zero {D : Nat → Prop} {H : AHeap} : IV D H (.agg [.bool false, .slc none 0 0 none]) 0 := by
  refine ⟨.slc none 0 0 none, rfl, ?_⟩
  rw [show (0 : Int).natAbs = 0 from rfl, dig_zero]
  exact ⟨(Own.nil (by simp)).1, by intro b off sv n c f cs e; simp at e⟩
theorem c482 (Dt : D482 T) {D : Nat → Prop} {H : AHeap} (hw : WF H) (hd : ∀ g, D g → g < H.next) {s : List UInt8} (hs : s.length < 2 ^ 40) :
    Calls T 482 [.str s] H fun r H' => Fr H H' ∧ readV D H' r (readS s) := by
  refine Calls.fn Dt.pr Dt.fn ?_
  have F := (Fx.start hw hd (ps := []) trivial).bx H.next [.bool false, .slc none 0 0 none]
  simp [ir482]
  refine WC.of (c498 Dt.d498) ?_
  rintro r X ⟨rfl, rfl⟩
  have hdl := cutP_len s [45]
  unfold readS
  obtain ⟨d, hd'⟩ : ∃ d, (cutP s [45]).1 = d := ⟨_, rfl⟩
  obtain ⟨neg, hneg⟩ : ∃ neg, (cutP s [45]).2 = neg := ⟨_, rfl⟩
  rw [hd'] at hdl
  rw [hd', hneg]
  simp [-Wk_seq]
  have B : Box _ H.next H.next _ := F.o.1
  by_cases h0 : d = [48] ∧ neg = false
  · obtain ⟨rfl, rfl⟩ := h0
    obtain ⟨X4, s4, F4⟩ := F.stA 0 rfl 2 [.bool false, .slc none 0 0 none] rfl rfl (by simp)
    have B4 : Box X4 H.next H.next _ := F4.o.1
    simp [psem_bld', fill, s4, ares_cellA (hb := B4), readD, readV]
    exact ⟨F4.fr, IV_zero⟩
  · have hz : readD d neg = if d = [] ∨ d.head? = some 48 ∨ 400 < d.length ∨ d.all digB = false then none else some (sgn neg (valS d)) := by
      unfold readD; rw [if_neg h0]
    rw [hz]
    rw [Wk_seq]
    refine W_cut (fun e X => X = H.new [.bool false, .slc none 0 0 none] ∧ e 2 = .ptr (some (H.next, 0)) ∧ e 4 = .str d ∧ e 5 = .bool neg) ?_ ?_
    · by_cases h1 : d = [48]
      · have h2 : neg = true := by cases neg with
          | true => rfl
          | false => exact absurd ⟨h1, rfl⟩ h0
        subst h1 h2
        simp
      · simp [h1]
    · rintro e X ⟨rfl, h2, h4, h5⟩
      have ht := trim_nil digits10 d
      have hall : (d.all fun c => digits10.contains c) = d.all digB := by congr 1; funext c; exact contains10 c
      rw [hall] at ht
      by_cases hb : d = [] ∨ d.head? = some 48 ∨ 400 < d.length ∨ d.all digB = false
      · rw [if_pos hb]
        rcases (by simpa using hb : d = [] ∨ d.head? = some 48 ∨ 400 < d.length ∨ d.all digB = false) with hb | hb
        · subst hb
          obtain ⟨X4, s4, F4⟩ := F.stA 0 rfl 2 [.bool false, .slc none 0 0 none] rfl rfl (by simp)
          have B4 : Box X4 H.next H.next _ := F4.o.1
          simp [h2, h4, psem_bld', fill, s4, ares_cellA (hb := B4), readV]
          exact F4.fr
        · cases d with
          | nil =>
            obtain ⟨X4, s4, F4⟩ := F.stA 0 rfl 2 [.bool false, .slc none 0 0 none] rfl rfl (by simp)
            have B4 : Box X4 H.next H.next _ := F4.o.1
            simp [h2, h4, psem_bld', fill, s4, ares_cellA (hb := B4), readV]
            exact F4.fr
          | cons c d =>
            have hn : nth (c :: d) 0 = c := rfl
            have hp : (0 : Int) < (d.length : Int) + 1 := by omega
            by_cases hc : c = 48
            · subst hc
              obtain ⟨X4, s4, F4⟩ := F.stA 0 rfl 2 [.bool false, .slc none 0 0 none] rfl rfl (by simp)
              have B4 : Box X4 H.next H.next _ := F4.o.1
              simp [h2, h4, hn, hp, psem_bld', fill, s4, ares_cellA (hb := B4), readV]
              exact F4.fr
            · have hc' : ¬ ((c.toNat : Int) = 48) := fun e => hc (u8_48.2 (by omega))
              have hb2 : 400 < (c :: d).length ∨ (c :: d).all digB = false := by
                rcases hb with hb | hb
                · simp at hb; exact absurd hb hc
                · exact hb
              by_cases hl : 400 < (c :: d).length
              · obtain ⟨X4, s4, F4⟩ := F.stA 0 rfl 2 [.bool false, .slc none 0 0 none] rfl rfl (by simp)
                have B4 : Box X4 H.next H.next _ := F4.o.1
                have hl' : (400 : Int) < (d.length : Int) + 1 := by simp at hl; omega
                simp [h2, h4, hn, hp, hc', hl', psem_bld', fill, s4, ares_cellA (hb := B4), readV]
                exact F4.fr
              · have hl' : ¬ (400 : Int) < (d.length : Int) + 1 := by simp at hl; omega
                have hda : (c :: d).all digB = false := hb2.resolve_left hl
                simp [h2, h4, hn, hp, hc', hl']
                refine WC.of (c499 Dt.d499 F.wf (s := c :: d) (cs := digits10) (by omega) (by decide) (by decide) (by decide)) ?_
                rintro r X ⟨fr, rfl⟩
                have FF := F.call fr
                have hne : ¬ trimL digits10 (trimR digits10 (c :: d)) = [] := fun e => by rw [ht.1 e] at hda; cases hda
                obtain ⟨X4, s4, F4⟩ := FF.stA 0 rfl 2 [.bool false, .slc none 0 0 none] rfl rfl (by simp)
                have B4 : Box X4 H.next H.next _ := F4.o.1
                simp [h2, hne, psem_bld', fill, s4, ares_cellA (hb := B4), readV]
                exact F4.fr
      · rw [if_neg hb]
        simp only [not_or, Bool.not_eq_false] at hb
        obtain ⟨b1, b2, b3, b4⟩ := hb
        refine W_cut (fun e X => Fr (H.new [.bool false, .slc none 0 0 none]) X ∧ e 2 = .ptr (some (H.next, 0)) ∧ e 4 = .str d ∧ e 5 = .bool neg) ?_ ?_
        · cases d with
          | nil => exact absurd rfl b1
          | cons c d =>
            have hn : nth (c :: d) 0 = c := rfl
            have hp : (0 : Int) < (d.length : Int) + 1 := by omega
            have hc' : ¬ ((c.toNat : Int) = 48) := fun e => b2 (by have : c = 48 := u8_48.2 (by omega); rw [this]; rfl)
            have hl' : ¬ (400 : Int) < (d.length : Int) + 1 := by simp at b3; omega
            simp [h2, h4, h5, hn, hp, hc', hl']
            refine WC.of (c499 Dt.d499 F.wf (s := c :: d) (cs := digits10) (by omega) (by decide) (by decide) (by decide)) ?_
            rintro r X ⟨fr, rfl⟩
            simp [h2, h4, h5, ht.2 b4]
            exact fr
        · rintro e X ⟨fr, h2, h4, h5⟩
          obtain ⟨vb, q1, q2⟩ := made_s2bF (H := X) (s := d) (by omega)
          simp [h4, q1]
          have F1 := F.call fr
          obtain ⟨fb, F2⟩ := F1.made F1.wf.fr_new q2
          have F3 := F2.read
          have lb : psem .len [vb] = some (.int .i64 d.length) := q2.sl.len
          have F4 := F3.nil encI 1 0
          simp [lb]
          refine W_loop (fun (i : Nat) e X => e 2 = .ptr (some (H.next, 0)) ∧ e 5 = .bool neg ∧ e 40 = vb ∧ e 41 = .int .i64 d.length ∧ ∃ j : Nat, i + j = d.length ∧ e 42 = .int .i64 j ∧ ∃ f, Fx H D [.own encI 1 (e 6) (dl (d.take j)) f, .box H.next [.bool false, .slc none 0 0 none]] [.rd encU 1 vb d] X) id d.length ?_ ?_
          · exact ⟨h2, h5, rfl, rfl, 0, by simp, rfl, none, by simpa [dl] using F4⟩
          · rintro i e X ⟨h2, h5, h40, h41, j, hj, h42, f, Fj⟩
            have hb : Rd _ encU 1 X vb d := Fj.p.1
            simp [h41, h42]
            refine WB.bool ?_ ?_
            · intro hlt
              simp at hlt
              obtain ⟨c, hc⟩ : ∃ c, nth d (j : Int) = c := ⟨_, rfl⟩
              have hmem : c ∈ d := by rw [← hc]; simp [nth, hlt]
              have hdg := List.all_eq_true.1 b4 c hmem
              simp only [digB, Bool.and_eq_true, decide_eq_true_eq] at hdg
              have w1 : IntKind.u8.wrap ((c.toNat : Int) - 48) = ((c.toNat - 48 : Nat) : Int) := by
                simp [IntKind.wrap, IntKind.bits, IntKind.signed]; omega
              have w2 : IntKind.i64.wrap ((c.toNat - 48 : Nat) : Int) = ((c.toNat - 48 : Nat) : Int) := wrap_small (by omega) (by omega)
              obtain ⟨k, hk⟩ : ∃ k, c.toNat - 48 = k := ⟨_, rfl⟩
              rw [hk] at w1 w2
              obtain ⟨v', X', f', p1, p2, F'⟩ := Fj.push 0 rfl 8 ((k : Nat) : Int) (by simp [dl]; omega) (by simp [dl]; omega)
              simp (disch := omega) [h2, h5, h40, h41, h42, hb.sl.ia, hb.sl.ld, hc, w1, w2, wsem0_bsl1 (v := .int .i64 (k : Int)) rfl, p1]
              rw [wrap_small (by omega) (by omega)]
              refine ⟨i - 1, by omega, j + 1, by omega, by simp, f', ?_⟩
              have e1 : dl (d.take (j + 1)) = dl (d.take j) ++ [(k : Int)] := by
                rw [take_nth hlt, hc, ← hk]; simp [dl]
              rw [e1]; exact F'
            · intro hge
              simp at hge
              rw [List.take_of_length_le hge] at Fj
              obtain ⟨v1, v2⟩ := dig_dl b1 b2 b4
              rw [← v2] at Fj
              have hc6 : (e 6).cell = true := Fj.o.1.1.form.1
              have hcs6 := Fj.o.1.1.form.2
              have G := Fj.read
              have e2 : bel (sgn neg (valS d)) = neg := by unfold bel sgn; cases neg <;> simp <;> omega
              obtain ⟨X4, s4, F4⟩ := G.stA 0 rfl 2 [.bool neg, e 6] rfl rfl (by simp [hc6])
              have B4 : Box X4 H.next H.next _ := F4.o.1
              simp [h2, h5, psem_bld', fill, splice, hc6, hcs6, s4, ares_cellA (hb := B4), readV]
              refine ⟨F4.fr, e 6, by rw [e2], ?_⟩
              rw [sgn_abs]
              exact F4.end.2.1
end Go.Am

/- Contracts of package big: several numbers are read. -/
set_option linter.unusedVariables false
set_option linter.unusedSimpArgs false
namespace Go.Am
variable {T : Tab}
theorem c491 (Dt : D491 T) {H : AHeap} {s : List UInt8} : Calls T 491 [.str s] H fun r H' => H' = H ∧ r = .bool (decide (401 < s.length)) := by
  refine Calls.fn Dt.pr Dt.fn ?_
  simp [ir491]
  omega
theorem c501 (Dt : D501 T) (Dg : D491 T) {H : AHeap} {v : AV} {l : List (List UInt8)} (hv : Sl encS 1 H v l) (hl : l.length < 2 ^ 40) : Calls T 501 [v, .fn 491 [] []] H fun r H' => H' = H ∧ ∃ n : Int, r = .int .i64 n ∧ (0 ≤ n ↔ ∃ s ∈ l, 401 < s.length) := by
  refine Calls.fn Dt.pr Dt.fn ?_
  simp [ir501, hv.len]
  refine W_loop (fun (i : Nat) e H' => H' = H ∧ e 0 = v ∧ e 1 = .fn 491 [] [] ∧ e 7 = .int .i64 l.length ∧ ∃ j : Nat, i + j = l.length ∧ e 8 = .int .i64 j ∧ ∀ s ∈ l.take j, ¬ 401 < s.length) id l.length ?_ ?_
  · exact ⟨rfl, rfl, rfl, rfl, 0, by simp, rfl, by simp⟩
  · rintro i e H' ⟨rfl, h0, h1, h7, j, hj, h8, ha⟩
    simp [h7, h8]
    refine WB.bool ?_ ?_
    · intro hlt
      simp at hlt
      simp (disch := omega) [h0, h1, h8, hv.ia, hv.ld]
      refine WC.of (c491 Dg) ?_
      rintro r H2 ⟨rfl, rfl⟩
      have hmem : nth l (j : Int) ∈ l := by simp [nth, hlt]
      simp
      refine WB.bool ?_ ?_
      · intro h2
        simp at h2
        simp [h8]
        exact ⟨_, hmem, h2⟩
      · intro h2
        simp at h2
        simp [h0, h1, h7, h8]
        rw [wrap_small (by omega) (by omega)]
        refine ⟨i - 1, by omega, j + 1, by omega, by simp, ?_⟩
        intro s hs
        rw [take_nth hlt, List.mem_append, List.mem_singleton] at hs
        rcases hs with hs | rfl
        · have := ha s hs; omega
        · exact h2
    · intro hge
      simp at hge
      rw [List.take_of_length_le hge] at ha
      simp
      intro s hs
      have := ha s hs
      omega
theorem c490 (Dt : D490 T) (Dg : D491 T) {H : AHeap} {v : AV} {l : List (List UInt8)} (hv : Sl encS 1 H v l) (hl : l.length < 2 ^ 40) : Calls T 490 [v, .fn 491 [] []] H fun r H' => H' = H ∧ r = .bool (l.any fun s => decide (401 < s.length)) := by
  refine Calls.fn Dt.pr Dt.fn ?_
  simp [ir490]
  refine WC.of (c501 Dt.d501 Dg hv hl) ?_
  rintro r H2 ⟨rfl, n, rfl, hn⟩
  simp
  rw [Bool.eq_iff_iff]
  simp [hn]
/-- Rows of numbers. -/
abbrev encP (p : AV × AV) : AV := .agg [p.1, p.2]
def IVs (D : Nat → Prop) (H : AHeap) : List (AV × AV) → List Int → Prop
  | [], [] => True
  | p :: vs, z :: zs => IV D H (encP p) z ∧ IVs D H vs zs
  | _, _ => False
theorem IVs.go {D D' : Nat → Prop} {H H' : AHeap} (hw : WF H) (k : Keeps (fun g => D g ∨ H.next ≤ g) H H') (hd : ∀ g, D' g → D g ∨ H.next ≤ g) : ∀ {vs : List (AV × AV)} {zs : List Int}, IVs D H vs zs → IVs D' H' vs zs
  | [], [], _ => trivial
  | p :: vs, z :: zs, h => ⟨(Pb.iv (encP p) z).keeps D D' H H' hw h.1 k hd, IVs.go hw k hd h.2⟩
  | [], _ :: _, h => h.elim
  | _ :: _, [], h => h.elim
abbrev Pb.ivs (vs : List (AV × AV)) (zs : List Int) : Pb := ⟨fun D H => IVs D H vs zs, fun _ _ _ _ hw h k hd => h.go hw k hd⟩
theorem IVs.snoc {D : Nat → Prop} {H : AHeap} {p : AV × AV} {z : Int} : ∀ {vs : List (AV × AV)} {zs : List Int}, IVs D H vs zs → IV D H (encP p) z → IVs D H (vs ++ [p]) (zs ++ [z])
  | [], [], _, h => ⟨h, trivial⟩
  | q :: vs, y :: zs, k, h => ⟨k.1, IVs.snoc k.2 h⟩
  | [], _ :: _, k, _ => k.elim
  | _ :: _, [], k, _ => k.elim
/-- What several texts are. -/
def numsS (l : List (List UInt8)) : Int × List Int :=
  if l.any fun s => decide (401 < s.length) then (3, [])
  else if l.any fun s => (readS s).isNone then (2, [])
  else (0, l.map fun s => (readS s).getD 0)
theorem c456 (Dt : D456 T) {D : Nat → Prop} {H : AHeap} (hw : WF H) (hd : ∀ g, D g → g < H.next) {v : AV} {l : List (List UInt8)} (hv : Rd D encS 1 H v l) (hl : l.length < 2 ^ 20) (hs : ∀ s ∈ l, s.length < 2 ^ 40) :
    Calls T 456 [v] H fun r H' => Fr H H' ∧ ∃ q, r = .tup [q, .int .i64 (numsS l).1] ∧ ((numsS l).1 = 0 → ∃ vs, Rd D encP 2 H' q vs ∧ IVs D H' vs (numsS l).2) := by
  refine Calls.fn Dt.pr Dt.fn ?_
  have F0 := Fx.start hw hd (ps := [.rd encS 1 v l]) ⟨hv, trivial⟩
  simp [ir456]
  refine WC.of (c490 Dt.d490 Dt.d491 hv.sl (by omega)) ?_
  rintro r H2 ⟨rfl, rfl⟩
  obtain ⟨N, hN⟩ : ∃ N, numsS l = N := ⟨_, rfl⟩
  rw [hN]
  unfold numsS at hN
  obtain ⟨b, hb⟩ : ∃ b, (l.any fun s => decide (401 < s.length)) = b := ⟨_, rfl⟩
  rw [hb] at hN ⊢
  cases b
  case true =>
    simp at hN
    subst hN
    simp
    exact F0.fr
  case false =>
    rw [if_neg (by simp)] at hN
    simp [hv.sl.len]
    have F1 := F0.nil encP 2 0
    refine W_loop (fun (i : Nat) e X => e 11 = v ∧ e 12 = .int .i64 l.length ∧ ∃ j : Nat, i + j = l.length ∧ e 13 = .int .i64 j ∧ ((l.take j).any fun s => (readS s).isNone) = false ∧ ∃ vs f, vs.length = j ∧ Fx H2 D [.own encP 2 (e 4) vs f] [.rd encS 1 v l, .ivs vs ((l.map fun s => (readS s).getD 0).take j)] X) id l.length ?_ ?_
    · exact ⟨rfl, rfl, 0, by simp, rfl, by simp, [], none, rfl, F1.pbs (qs := [.rd encS 1 v l, .ivs [] []]) ⟨F1.p.1, trivial, trivial⟩⟩
    · rintro i e X ⟨h11, h12, j, hj, h13, ha, vs, f, hvl, Fj⟩
      simp [h12, h13]
      refine WB.bool ?_ ?_
      · intro hlt
        simp at hlt
        have hvX : Rd _ encS 1 X v l := Fj.p.1
        obtain ⟨s, hs'⟩ : ∃ s, nth l (j : Int) = s := ⟨_, rfl⟩
        have hmem : s ∈ l := by rw [← hs']; simp [nth, hlt]
        simp (disch := omega) [h11, h13, hvX.sl.ia, hvX.sl.ld, hs']
        refine WC.of (c482 Dt.d482 Fj.wf Fj.dn (hs s hmem)) ?_
        rintro r X1 ⟨fr1, hr⟩
        cases hz : readS s with
        | none =>
          rw [hz] at hr
          have hr : r = _ := hr
          subst hr
          have F1 := (Fj.call fr1).bx X1.next [.bool false, .slc none 0 0 none]
          obtain ⟨X2, s2, F2⟩ := F1.stA 0 rfl 2 [.bool false, .slc none 0 0 none] rfl rfl (by simp)
          have hany : (l.any fun s => (readS s).isNone) = true := List.any_eq_true.2 ⟨s, hmem, by rw [hz]; rfl⟩
          rw [if_pos hany] at hN
          subst hN
          simp [s2]
          exact F2.fr
        | some z =>
          rw [hz] at hr
          obtain ⟨w, rfl, hw'⟩ := hr
          obtain ⟨t, rfl, tc, ht⟩ := hw'.box
          have F1 := ((Fj.callR fr1 (qs := [.rd encI 1 t (dig z.natAbs)]) ⟨ht, trivial⟩)).bx X1.next [.bool false, .slc none 0 0 none]
          obtain ⟨X2, s2, F2⟩ := F1.stA 0 rfl 2 [.bool (bel z), t] rfl rfl (by simp [tc])
          have B2 : Box X2 X1.next X1.next _ := F2.o.1
          obtain ⟨v', X3, f', p1, pc, F3⟩ := F2.pushA 1 rfl 32 (x := (AV.bool (bel z), t)) (by simp) rfl (by simp [tc]) (by omega) (by omega)
          simp only [cells_agg] at p1
          simp [s2, B2.all 2 rfl, wsem0_bslA (n := 2) (z := [.bool false, .slc none 0 0 none]) (cs := [.bool (bel z), t]) rfl rfl (by simp [tc]) (by simp), p1]
          simp [h11, h12, h13]
          rw [wrap_small (by omega) (by omega)]
          refine ⟨i - 1, by omega, j + 1, by omega, by simp, ?_, vs ++ [(.bool (bel z), t)], by simp [hvl], f', ?_⟩
          · rw [take_nth hlt, hs']
            simp at ha ⊢
            intro x hx
            rcases hx with hx | rfl
            · exact ha x hx
            · rw [hz]; simp
          · have e1 : (l.map fun s => (readS s).getD 0).take (j + 1) = (l.map fun s => (readS s).getD 0).take j ++ [z] := by
              rw [← List.map_take, ← List.map_take, take_nth hlt, hs', List.map_append]; simp [hz]
            rw [e1]
            have G := F3.drop
            exact G.pbs (qs := [.rd encS 1 v l, .ivs _ _]) ⟨G.p.2.1, IVs.snoc G.p.2.2.1 ⟨t, rfl, G.p.1⟩, trivial⟩
      · intro hge
        simp at hge
        rw [List.take_of_length_le hge] at ha
        rw [List.take_of_length_le (by simpa using hge)] at Fj
        rw [if_neg (by rw [ha]; simp)] at hN
        subst hN
        have G := Fj.read
        simp
        exact ⟨G.fr, vs, G.end.2.1, G.end.2.2.2.1⟩
end Go.Am

/- Contracts of strings.Builder: what is written byte by byte, and the text. -/
set_option linter.unusedVariables false
set_option linter.unusedSimpArgs false
namespace Go.Am
variable {T : Tab}
/-- A buffer's row is of a known type. -/
def BufT (ta : Nat) (H : AHeap) : AV → Prop
  | .slc (some (c, off)) _ _ _ => off = 0 ∧ H.typ c = some ta
  | _ => True
/-- A builder with what was written. -/
structure Bld (tb ta : Nat) (H : AHeap) (b : Nat) (l : List UInt8) (f : Option Nat) : Prop where
  ex : ∃ a buf, Box H b b [.ptr a, buf] ∧ (a = none ∨ a = some (b, 0)) ∧ Own encU 1 H buf l f ∧ BufT ta H buf
  typ : H.typ b = some tb
theorem BufT.keeps {ta : Nat} {D : Nat → Prop} {H H' : AHeap} (hw : WF H) (k : Keeps D H H') {v : AV} {l : List UInt8} (hs : Sl encU 1 H v l) (h : BufT ta H v) : BufT ta H' v := by
  obtain ⟨_, p, sv, cap, rfl, _, h2⟩ := hs
  cases p with
  | none => exact trivial
  | some q =>
    obtain ⟨c, off⟩ := q
    obtain ⟨_, f, cs, h4, _⟩ := h2
    exact ⟨h.1, by rw [k.typ c (hw.row_lt h4)]; exact h.2⟩
theorem Bld.lt {tb ta : Nat} {H : AHeap} {b : Nat} {l : List UInt8} {f : Option Nat} (hw : WF H) (h : Bld tb ta H b l f) : ∀ g ∈ b :: f.toList, g < H.next := by
  obtain ⟨⟨a, buf, h1, h2, h3, h4⟩, h5⟩ := h
  intro g hg
  rcases List.mem_cons.1 hg with rfl | hg
  · exact hw.row_fam h1.row
  · have : f = some g := by simpa using hg
    subst this
    exact h3.2.lt hw
theorem Bld.keeps {tb ta : Nat} {D : Nat → Prop} {H H' : AHeap} {b : Nat} {l : List UInt8} {f : Option Nat} (hw : WF H) (h : Bld tb ta H b l f) (k : Keeps D H H') (hd : ∀ g ∈ b :: f.toList, ¬D g) : Bld tb ta H' b l f := by
  obtain ⟨⟨a, buf, h1, h2, h3, h4⟩, h5⟩ := h
  exact ⟨⟨a, buf, h1.keeps hw k (hd b (by simp)), h2, h3.keeps hw k (fun g hg => hd g (by simp [hg])), h4.keeps hw k h3.1⟩, by rw [k.typ b (hw.row_lt h1.row)]; exact h5⟩
abbrev Ob.bld (tb ta b : Nat) (l : List UInt8) (f : Option Nat) : Ob :=
  ⟨b :: f.toList, fun H => Bld tb ta H b l f, fun _ hw h => h.lt hw, fun _ _ _ hw h k hd => h.keeps hw k hd⟩
theorem wsem0_boxT {t : Nat} {cs : List AV} {H : AHeap} (h : cs.all AV.cell = true) : wsem0 (.boxT t) [.agg cs] H = some (.ptr (some (H.next, 0)), (H.new cs).tag H.next t) := by
  have h' : (AV.agg cs).cells.all AV.cell = true := h
  show (if (AV.agg cs).cells.all AV.cell then _ else none) = _
  rw [if_pos h']
  rfl
theorem WF.tag {H : AHeap} (hw : WF H) (b t : Nat) : WF (H.tag b t) := ⟨hw.blk, hw.fam⟩
theorem keeps_newtag {D : Nat → Prop} {H : AHeap} (hw : WF H) {t : Nat} {cs : List AV} : Keeps D H ((H.new cs).tag H.next t) :=
  ⟨Nat.le_succ _, fun b f ds hr hd => (hw.keeps_new (cs := cs) (D := D)).row b f ds hr hd, fun f hf hd => (hw.keeps_new (cs := cs) (D := D)).fam f hf hd, fun m o ho hr hd => (hw.keeps_new (cs := cs) (D := D)).obj m o ho hr hd, fun c hc => upd_ne _ _ _ (by omega)⟩
/-- A new builder. -/
theorem Fx.bld {H0 H : AHeap} {D : Nat → Prop} {os : List Ob} {ps : List Pb} (F : Fx H0 D os ps H) (tb ta : Nat) :
    wsem0 (.boxT tb) [.agg [.ptr none, .slc none 0 0 none]] H = some (.ptr (some (H.next, 0)), (H.new [.ptr none, .slc none 0 0 none]).tag H.next tb) ∧
    Fx H0 D (.bld tb ta H.next [] none :: os) ps ((H.new [.ptr none, .slc none 0 0 none]).tag H.next tb) := by
  refine ⟨wsem0_boxT rfl, F.mkO (F.wf.new.tag _ _) (keeps_newtag F.wf) _ (by simp) (by simp) ⟨⟨none, .slc none 0 0 none, ?_, .inl rfl, Own.nil (by simp), trivial⟩, upd_same _ _ _⟩⟩
  exact ⟨(Box.new (H := H) (cs := [.ptr none, .slc none 0 0 none])).row, (Box.new (H := H) (cs := [.ptr none, .slc none 0 0 none])).fam⟩
@[simp] theorem psem_eqP3 {neg : Bool} {p : Nat × Nat} : psem (.eqP neg) [.ptr (some p), .ptr (some p)] = some (.bool (true != neg)) := by simp [psem]
theorem Box.p2u {H : AHeap} {b f : Nat} {c : AV} {cs : List AV} (h : Box H b f (c :: cs)) : rsem .p2u [.ptr (some (b, 0))] H = some (.ptr (some (b, 0))) := by
  simp [rsem, AHeap.ld, h.row]
theorem Box.u2p {H : AHeap} {b f t : Nat} {cs : List AV} (h : Box H b f cs) (ht : H.typ b = some t) (n : Nat) (hn : cs.length = n) : rsem (.u2p t n) [.ptr (some (b, 0))] H = some (.ptr (some (b, 0))) := by
  subst hn
  simp [rsem, AHeap.ld, h.row, ht]
theorem c264 (Dt : D264 T) {H : AHeap} (hw : WF H) {ta b : Nat} {l : List UInt8} {f : Option Nat} (hn : ∀ g, f = some g → g ≠ b) (hb : Bld 76 ta H b l f) :
    Calls T 264 [.ptr (some (b, 0))] H fun r H' => WF H' ∧ Keeps (fun g => g = b) H H' ∧ H'.next = H.next ∧ Bld 76 ta H' b l f := by
  obtain ⟨⟨a, buf, h1, h2, h3, h4⟩, h5⟩ := hb
  refine Calls.fn Dt.pr Dt.fn ?_
  simp [ir264, h1.at 0 rfl]
  rcases h2 with rfl | rfl
  · simp [h1.p2u]
    refine WC.of (Calls.prim (Q := fun r H' => H' = H ∧ r = .ptr (some (b, 0))) Dt.p266 rfl ⟨rfl, rfl⟩) ?_
    rintro r X ⟨rfl, rfl⟩
    obtain ⟨H', q1, q2, q3, q4, q5⟩ := h1.st hw (off := 0) (vs := [.ptr (some (b, 0))]) (by simp) (by simp)
    have s1 : wsem0 (.st 1) [.ptr (some (b, 0)), .ptr (some (b, 0))] X = some (.undef, H') := by simp [wsem0_st, q1]
    simp [h1.u2p h5 2 rfl, s1]
    refine ⟨q2, q4, q5, ⟨_, buf, q3, .inr rfl, h3.keeps hw q4 (fun g hg => hn g hg), h4.keeps hw q4 h3.1⟩, by rw [q4.typ b (hw.row_lt h1.row)]; exact h5⟩
  · simp [h1.at 0 rfl]
    exact ⟨hw, .refl, ⟨_, buf, h1, .inr rfl, h3, h4⟩, h5⟩
theorem app_new {H H' : AHeap} {sz by_ sv len m : Nat} {p : Option (Nat × Nat)} {cap : Option Nat} {xs : List AV} {v' : AV} (h : H.app sz by_ p sv len cap m xs = some (v', H')) (hm : m ≠ 0) : (∃ a n c, v' = .slc (some (H.next, 0)) a n c) ∧ H'.next = H.next + 1 := by
  unfold AHeap.app at h
  rw [if_neg hm] at h
  split at h
  · cases h
  · split at h
    · simp at h; obtain ⟨rfl, rfl⟩ := h; exact ⟨⟨_, _, _, rfl⟩, rfl⟩
    · split at h
      · simp at h; obtain ⟨rfl, rfl⟩ := h; exact ⟨⟨_, _, _, rfl⟩, rfl⟩
      · split at h
        · cases h
        · split at h
          · split at h
            · split at h
              · split at h
                · simp at h; obtain ⟨rfl, rfl⟩ := h; exact ⟨⟨_, _, _, rfl⟩, rfl⟩
                · cases h
              · simp at h; obtain ⟨rfl, rfl⟩ := h; exact ⟨⟨_, _, _, rfl⟩, rfl⟩
            · split at h
              · simp at h; obtain ⟨rfl, rfl⟩ := h; exact ⟨⟨_, _, _, rfl⟩, rfl⟩
              · cases h
          · cases h
/-- Appending to a buffer whose type is known. -/
theorem app_t {H : AHeap} (hw : WF H) {ta : Nat} {v x : AV} {l ys : List UInt8} {f : Option Nat} (ho : Own encU 1 H v l f) (hb : BufT ta H v) (hx : Sl encU 1 H x ys) (hl : l.length + ys.length ≤ 2 ^ 46) :
    ∃ v' H' f', wsem0 (.appT ta 1 1) [v, x] H = some (v', H') ∧ WF H' ∧ Own encU 1 H' v' (l ++ ys) f' ∧ BufT ta H' v' ∧ Keeps (fun g => f = some g) H H' ∧ (∀ g, f' = some g → f = some g ∨ H.next ≤ g) := by
  obtain ⟨v', H', f', q1, q2, q3, q4, q5⟩ := app_own (bytes := 1) hw ho hx (by simp) (Cell.all _) (by omega) (by omega)
  obtain ⟨hx1, hx2⟩ := hx.cells
  obtain ⟨_, p, sv, cap, rfl, hcap, h2⟩ := ho.1
  have e0 : H.app 1 1 p sv l.length cap ys.length (ys.flatMap fun x => (encU x).cells) = some (v', H') := by
    rw [← q1]; simp only [wsem0, wsem, hx1, hx2]
  have e1 : wsem0 (.appT ta 1 1) [.slc p sv l.length cap, x] H = some (v', H.tagA ta p H') := by
    simp only [wsem0, wsem, hx1, hx2, e0]
  by_cases hm : ys.length = 0
  · have : ys = [] := List.eq_nil_of_length_eq_zero hm
    subst this
    unfold AHeap.app at e0
    rw [if_pos hm] at e0
    simp at e0
    obtain ⟨rfl, rfl⟩ := e0
    have e2 : H.tagA ta p H = H := by unfold AHeap.tagA; rw [if_neg (by omega)]
    rw [e2] at e1
    exact ⟨_, H, f', e1, q2, q3, hb, q4, q5⟩
  · obtain ⟨⟨a, n, c, rfl⟩, nx⟩ := app_new e0 hm
    have ty : H.typed ta p = true := by
      cases p with
      | none => rfl
      | some q =>
        obtain ⟨c', off⟩ := q
        have hb : off = 0 ∧ H.typ c' = some ta := hb
        simp [AHeap.typed, hb]
    have e2 : H.tagA ta p H' = H'.tag H.next ta := by unfold AHeap.tagA; rw [if_pos ⟨by omega, ty⟩]
    rw [e2] at e1
    refine ⟨_, _, f', e1, q2.tag _ _, ?_, ⟨rfl, upd_same _ _ _⟩, ⟨q4.next, q4.row, q4.fam, q4.obj, fun c hc => ?_⟩, q5⟩
    · exact q3
    · show upd H'.typ H.next _ c = _
      rw [upd_ne _ _ _ (by omega)]; exact q4.typ c hc
theorem c463 (Dt : D463 T) {H : AHeap} (hw : WF H) {b : Nat} {l : List UInt8} {f : Option Nat} (hn : ∀ g, f = some g → g ≠ b) (hb : Bld 76 5 H b l f) (hl : l.length < 2 ^ 45) {c : UInt8} :
    Calls T 463 [.ptr (some (b, 0)), .int .u8 c.toNat] H fun r H' => WF H' ∧ Keeps (fun g => g ∈ b :: f.toList ∨ H.next ≤ g) H H' ∧ r = .nilI ∧ ∃ f', Bld 76 5 H' b (l ++ [c]) f' ∧ (∀ g, f' = some g → f = some g ∨ H.next ≤ g) := by
  refine Calls.fn Dt.pr Dt.fn ?_
  simp [ir463]
  refine WC.of (c264 Dt.d264 hw hn hb) ?_
  rintro r X ⟨w1, k1, n1, ⟨a, buf, h1, h2, h3, h4⟩, h5⟩
  have fc := w1.fr_new (cs := [AV.int .u8 c.toNat])
  have o1 : Sl encU 1 (X.new [AV.int .u8 c.toNat]) (.slc (some (X.next, 0)) 1 1 (some 1)) [c] :=
    (w1.own_new (enc := encU) (l := [c]) (cs := [AV.int .u8 c.toNat]) (cap := some 1) (sz := 1) (Cell.len _) (by simp) (by simp) (by simp)).1
  have h3' : Own encU 1 (X.new [AV.int .u8 c.toNat]) buf l f := h3.fr w1 fc
  obtain ⟨v', Y, f', q1, q2, q3, q4, q5, q6⟩ := app_t fc.wf h3' (h4.keeps w1 fc.keeps h3.1) o1 (by simp; omega)
  have hlt : b < X.next := w1.row_fam h1.row
  have hlt' : b < (X.new [AV.int .u8 c.toNat]).next := by rw [show (X.new [AV.int .u8 c.toNat]).next = X.next + 1 from rfl]; omega
  have hbY : Box Y b b [.ptr a, buf] := (h1.keeps w1 fc.keeps (by omega)).keeps fc.wf q5 (fun e => hn _ e rfl)
  obtain ⟨Z, z1, z2, z3, z4, z5⟩ := hbY.st q2 (off := 1) (vs := [v']) (by simp) (by simp [q3.1.form.1])
  have s1 : wsem0 (.st 1) [.ptr (some (b, 1)), v'] Y = some (.undef, Z) := by simp [wsem0_st, q3.1.form.2, z1]
  simp [h1.at 1 rfl, wsem0_bsl1 (v := .int .u8 (c.toNat : Int)) rfl, q1, s1]
  have nx : X.next = H.next := n1
  refine ⟨z2, ?_, f', ⟨⟨a, v', by simpa [splice] using z3, h2, q3.keeps q2 z4 (fun g hg e => ?_), q4.keeps q2 z4 q3.1⟩, ?_⟩, fun g hg => ?_⟩
  · refine ((k1.mono fun g hg => by simp [hg]).trans (((fc.keeps.mono fun g hg => by omega).trans (q5.mono fun g hg => ?_)).trans (z4.mono fun g hg => by simp [hg])))
    simp [hg]
  · subst e
    rcases q6 g hg with h | h
    · exact hn g h rfl
    · omega
  · rw [z4.typ b (q2.row_lt hbY.row), q5.typ b hlt', fc.keeps.typ b hlt]; exact h5
  · rcases q6 g hg with h | h
    · exact .inl h
    · have : (X.new [AV.int .u8 c.toNat]).next = X.next + 1 := rfl
      omega
theorem WF.kill {H : AHeap} (hw : WF H) (f : Nat) : WF (H.kill f) := ⟨fun b hb => hw.blk b (Nat.le_of_succ_le hb), fun b f cs h => Nat.lt_succ_of_lt (hw.fam b f cs h)⟩
theorem keeps_kill {H : AHeap} {f : Nat} : Keeps (fun g => g = f) H (H.kill f) :=
  ⟨Nat.le_succ _, fun b g cs h hd => row_of h rfl (upd_ne _ _ _ hd), fun g _ hd => by show (upd H.fam f _ g).isSome = _; rw [upd_ne _ _ _ hd], fun m o h _ _ => h, fun _ _ => rfl⟩
theorem bytesS_map : ∀ l : List UInt8, bytesS (l.map encU) = some l
  | [] => rfl
  | c :: l => by
    simp only [List.map_cons, bytesS, bytesS_map l]
    have := c.toNat_lt
    rw [if_pos (by omega)]
    simp
theorem c261 (Dt : D261 T) {H : AHeap} (hw : WF H) {b : Nat} {l : List UInt8} {f : Option Nat} (hb : Bld 76 5 H b l f) (h0 : l ≠ []) (hl : l.length < 2 ^ 45) :
    Calls T 261 [.ptr (some (b, 0))] H fun r H' => WF H' ∧ Keeps (fun g => g ∈ b :: f.toList) H H' ∧ r = .str l := by
  obtain ⟨⟨a, buf, h1, h2, h3, h4⟩, h5⟩ := hb
  refine Calls.fn Dt.pr Dt.fn ?_
  obtain ⟨_, p, sv, cap, rfl, hcap, h6⟩ := h3.1
  cases p with
  | none => exact absurd h6 h0
  | some q =>
    obtain ⟨c, off⟩ := q
    obtain ⟨h7, g, cs, h8, h9, h10⟩ := h6
    obtain ⟨g', cs', q1, q2, q3⟩ := h3.2
    rw [h8] at q1; cases q1
    obtain ⟨rfl, h11⟩ : off = 0 ∧ H.typ c = some 5 := h4
    have hpos : 0 < l.length := by cases l with | nil => exact absurd rfl h0 | cons => simp
    have u1 : wsem0 (.ustr 5) [.ptr (some (c, 0)), .int .i64 l.length] H = some (.str l, H.kill g) := by
      simp only [wsem0, wsem]
      rw [if_pos ⟨by omega, h11⟩, h8]
      simp only
      rw [if_pos ⟨q3, by simp; omega, by omega⟩]
      have e : cs.take l.length = l.map encU := by
        rw [Cell.flat] at h10; simpa using h10
      simp only [Int.toNat_natCast, e, bytesS_map]
    have sd : psem .sdata [.slc (some (c, 0)) sv l.length cap] = some (.ptr (some (c, 0))) := by simp [psem, hpos]
    simp [ir261, h1.at 1 rfl, sd, u1]
    exact ⟨hw.kill g, keeps_kill.mono fun x hx => by simp [hx, q2]⟩
section
variable {H0 H H' : AHeap} {D : Nat → Prop} {os : List Ob} {ps : List Pb} {tb ta b : Nat} {l l' : List UInt8} {f f' : Option Nat}
theorem Fx.bldN (F : Fx H0 D os ps H) (i : Nat) (hi : os[i]? = some (.bld tb ta b l f)) : Bld tb ta H b l f ∧ ∀ g, f = some g → g ≠ b := by
  have hm := List.mem_of_getElem? hi
  have nd := F.nd.sublist (obs_sub (List.singleton_sublist.2 hm))
  refine ⟨obsAll_mem F.o _ hm, fun g hg e => ?_⟩
  subst hg
  subst e
  simp at nd
theorem Fx.bldW (F : Fx H0 D os ps H) (i : Nat) (hi : os[i]? = some (.bld tb ta b l f)) (hw : WF H') (k : Keeps (fun g => g ∈ b :: f.toList ∨ H.next ≤ g) H H') (hb : Bld tb ta H' b l' f') (hf : ∀ g, f' = some g → f = some g ∨ H.next ≤ g) : Fx H0 D (os.set i (.bld tb ta b l' f')) ps H' := by
  obtain ⟨h1, h2⟩ := F.bldN i hi
  refine F.upd i hi (.bld tb ta b l' f') hw k (fun g hg => ?_) ?_ hb
  · rcases List.mem_cons.1 hg with rfl | hg
    · exact .inl (by simp)
    · exact (hf g (by simpa using hg)).imp (fun h => by simp [h]) id
  · show (b :: f'.toList).Nodup
    cases f' with
    | none => simp
    | some g =>
      simp
      intro e
      subst e
      rcases hf b rfl with h | h
      · exact h2 b h rfl
      · have := h1.lt F.wf b (by simp); omega
/-- A builder's text is taken: the builder is gone. -/
theorem Fx.bldE {os : List Ob} (F : Fx H0 D (.bld tb ta b l f :: os) ps H) (hw : WF H') (k : Keeps (fun g => g ∈ b :: f.toList) H H') : Fx H0 D os ps H' := by
  have G := F.upd 0 rfl ⟨b :: f.toList, fun H => ∀ g ∈ b :: f.toList, g < H.next, fun _ _ h => h, fun _ _ _ _ h k _ => fun g hg => Nat.lt_of_lt_of_le (h g hg) k.next⟩ hw (k.mono fun g hg => .inl hg) (fun g hg => .inl hg) (by
    have := F.nd.sublist (obs_sub (List.singleton_sublist.2 (List.mem_cons_self ..)))
    simpa using this) (fun g hg => Nat.lt_of_lt_of_le ((F.bldN 0 rfl).1.lt F.wf g hg) k.next)
  exact G.drop
end
end Go.Am

/- Contracts of package big: numbers' texts. -/
set_option linter.unusedVariables false
set_option linter.unusedSimpArgs false
namespace Go.Am
variable {T : Tab}
def chS (d : Int) : UInt8 := UInt8.ofNat (48 + d.toNat)
/-- A number's text. -/
def showS (z : Int) : List UInt8 := if z = 0 then [48] else (if bel z then [45] else []) ++ (dig z.natAbs).map chS
theorem rdig_mem : ∀ (n : Nat), ∀ x ∈ rdig n, 0 ≤ x ∧ x ≤ 9 := by
  intro n
  induction n using Nat.strongRecOn with
  | _ n ih =>
    intro x hx
    by_cases h : n = 0
    · subst h; rw [rdig_zero] at hx; simp at hx
    · rw [rdig_pos h] at hx
      rcases List.mem_cons.1 hx with rfl | hx
      · omega
      · exact ih (n / 10) (by omega) x hx
theorem dig_mem (n : Nat) : ∀ x ∈ dig n, 0 ≤ x ∧ x ≤ 9 := fun x hx => rdig_mem n x (by unfold dig at hx; simpa using hx)
theorem chS_nat {d : Int} (h0 : 0 ≤ d) (h9 : d ≤ 9) : ((chS d).toNat : Int) = 48 + d := by
  unfold chS
  rw [UInt8.toNat_ofNat', Nat.mod_eq_of_lt (by omega)]
  omega
theorem c474 (Dt : D474 T) {D : Nat → Prop} {H : AHeap} (hw : WF H) (hd : ∀ g, D g → g < H.next) {v : AV} {z : Int} (hv : IV D H v z) (hl : (dig z.natAbs).length < 2 ^ 40) :
    Calls T 474 [v] H fun r H' => Fr H H' ∧ r = .str (showS z) := by
  obtain ⟨s, rfl, sc, hs⟩ := hv.box
  refine Calls.fn Dt.pr Dt.fn ?_
  have F := (Fx.start hw hd (ps := [.rd encI 1 s (dig z.natAbs)]) ⟨hs, trivial⟩).bx H.next [.bool (bel z), s]
  have B : Box _ H.next H.next _ := F.o.1
  have ls : psem .len [s] = some (.int .i64 (dig z.natAbs).length) := hs.sl.len
  simp [ir474, sc, B.at 1 rfl, ls]
  by_cases h0 : z = 0
  · subst h0
    simp [dig_zero, showS]
    exact F.fr
  · have hne := dig_pos_len.2 (show z.natAbs ≠ 0 by omega)
    have hne' : ¬ dig z.natAbs = [] := by intro e; rw [e] at hne; simp at hne
    obtain ⟨bl, Fb⟩ := F.bld 76 5
    obtain ⟨X, hX⟩ : ∃ X, ((H.new [.bool (bel z), s]).new [.ptr none, .slc none 0 0 none]).tag (H.new [.bool (bel z), s]).next 76 = X := ⟨_, rfl⟩
    rw [hX] at bl Fb
    have nb : (H.new [.bool (bel z), s]).next = H.next + 1 := rfl
    rw [nb] at bl Fb
    have B2 : Box X H.next H.next _ := Fb.o.2.1
    simp [-Wk_seq, hne', new_next]
    rw [Wk_seq]
    simp [-Wk_seq, new_next, bl]
    rw [Wk_seq]
    refine W_cut (fun e Y => e 1 = .ptr (some (H.next, 0)) ∧ e 3 = .ptr (some (H.next + 1, 0)) ∧ ∃ f, Fx H D [.bld 76 5 (H.next + 1) (if bel z then [45] else []) f, .box H.next [.bool (bel z), s]] [.rd encI 1 s (dig z.natAbs)] Y) ?_ ?_
    · simp [B2.at 0 rfl]
      cases hz : bel z with
      | false =>
        rw [hz] at Fb
        simp
        exact ⟨none, Fb⟩
      | true =>
        rw [hz] at Fb
        simp
        obtain ⟨b1, b2⟩ := Fb.bldN 0 rfl
        refine WC.of (c463 Dt.d463 Fb.wf (c := 45) b2 b1 (by simp)) ?_
        rintro r Y ⟨w1, k1, rfl, f', hb, hf⟩
        have G := Fb.bldW 0 rfl w1 k1 hb hf
        simp
        exact ⟨f', G⟩
    · rintro e Y ⟨h1, h3, f, G⟩
      have BY : Box Y H.next H.next _ := G.o.2.1
      simp [h1, h3, BY.at 1 rfl, ls]
      refine W_loop (fun (i : Nat) e X => e 3 = .ptr (some (H.next + 1, 0)) ∧ e 14 = s ∧ e 15 = .int .i64 (dig z.natAbs).length ∧ ∃ j : Nat, i + j = (dig z.natAbs).length ∧ e 16 = .int .i64 j ∧ ∃ f, Fx H D [.bld 76 5 (H.next + 1) ((if bel z then [45] else []) ++ ((dig z.natAbs).map chS).take j) f, .box H.next [.bool (bel z), s]] [.rd encI 1 s (dig z.natAbs)] X) id (dig z.natAbs).length ?_ ?_
      · exact ⟨h3, rfl, rfl, 0, by simp, rfl, f, by simpa using G⟩
      · rintro i e X ⟨h3, h14, h15, j, hj, h16, f, G⟩
        simp [h15, h16]
        refine WB.bool ?_ ?_
        · intro hlt
          simp at hlt
          have hsX : Rd _ encI 1 X s (dig z.natAbs) := G.p.1
          obtain ⟨d, hd'⟩ : ∃ d, nth (dig z.natAbs) (j : Int) = d := ⟨_, rfl⟩
          have hmem : d ∈ dig z.natAbs := by rw [← hd']; simp [nth, hlt]
          obtain ⟨d0, d9⟩ := dig_mem _ d hmem
          have ec := chS_nat d0 d9
          have w1 : IntKind.i64.wrap (48 + d) = 48 + d := wrap_small (by omega) (by omega)
          have w2 : IntKind.u8.wrap (48 + d) = ((chS d).toNat : Int) := by
            rw [ec]; simp [IntKind.wrap, IntKind.bits, IntKind.signed]; omega
          simp (disch := omega) [h3, h14, h15, h16, hsX.sl.ia, hsX.sl.ld, hd', w1, w2]
          obtain ⟨b1, b2⟩ := G.bldN 0 rfl
          refine WC.of (c463 Dt.d463 G.wf b2 b1 (by simp; split <;> simp <;> omega)) ?_
          rintro r Y ⟨w1, k1, rfl, f', hb, hf⟩
          have G' := G.bldW 0 rfl w1 k1 hb hf
          simp [h3, h14, h15, h16]
          rw [wrap_small (by omega) (by omega)]
          refine ⟨i - 1, by omega, j + 1, by omega, by simp, f', ?_⟩
          rw [List.append_assoc] at G'
          have e1 : ((dig z.natAbs).map chS).take (j + 1) = ((dig z.natAbs).map chS).take j ++ [chS d] := by
            rw [← List.map_take, ← List.map_take, take_nth hlt, hd', List.map_append]; rfl
          rw [e1]
          exact G'
        · intro hge
          simp at hge
          rw [List.take_of_length_le (by simpa using hge)] at G
          have es : (if bel z then [45] else []) ++ (dig z.natAbs).map chS = showS z := by unfold showS; rw [if_neg h0]
          rw [es] at G
          obtain ⟨b1, b2⟩ := G.bldN 0 rfl
          have sl : (showS z).length < 2 ^ 45 := by rw [← es]; simp; split <;> simp <;> omega
          have sn : showS z ≠ [] := by rw [← es]; simp [hne']
          simp [h3]
          refine WC.of (c261 Dt.d261 G.wf b1 sn sl) ?_
          rintro r Y ⟨w1, k1, rfl⟩
          have E := G.bldE w1 k1
          simp
          exact E.fr
end Go.Am

/- Contracts of package big: several results' texts; operations of two texts. -/
set_option linter.unusedVariables false
set_option linter.unusedSimpArgs false
namespace Go.Am
variable {T : Tab}
/-! ### Parts of elements -/
/-- Where a part of an element stands. -/
def eltk (v : AV) (sz : Nat) (i : Int) (k : Nat) : AV := match v with | .slc (some (b, o)) _ _ _ => .ptr (some (b, o + i.toNat * sz + k)) | _ => .undef
section
variable {α : Type} {enc : α → AV} {sz : Nat}
theorem Sl.fa [Inhabited α] {H : AHeap} {v : AV} {l : List α} (h : Sl enc sz H v l) {i : Int} (h0 : 0 ≤ i) (h1 : i < l.length) (k : Nat) : psem (.fa k) [elt v sz i] = some (eltk v sz i k) := by
  obtain ⟨_, p, sv, cap, rfl, _, h2⟩ := h
  cases p with
  | none => have h2 : l = [] := h2; subst h2; simp at h1; omega
  | some q => rfl
theorem Sl.ldk [Inhabited α] {H : AHeap} {v : AV} {l : List α} (h : Sl enc sz H v l) {i : Int} (h0 : 0 ≤ i) (h1 : i < l.length) (k : Nat) {c : AV} (hc : (enc (nth l i)).cells[k]? = some c) : rsem (.ld 1 false) [eltk v sz i k] H = some c := by
  obtain ⟨b, o, e, hl⟩ := h.ldc h0 h1
  obtain ⟨_, p, sv, cap, rfl, _, h2⟩ := h
  cases p with
  | none => simp [elt] at e
  | some q =>
    obtain ⟨b', o'⟩ := q
    simp only [elt, AV.ptr.injEq, Option.some.injEq, Prod.mk.injEq] at e
    obtain ⟨rfl, rfl⟩ := e
    have hk := (List.getElem?_eq_some_iff.1 hc).1
    unfold AHeap.ld at hl
    simp only [eltk, rsem, AHeap.ld]
    cases hr : H.row b' with
    | none => simp [hr] at hl
    | some r =>
      obtain ⟨f, cs⟩ := r
      simp only [hr] at hl ⊢
      split at hl
      · rename_i hle
        simp only [Option.some.injEq] at hl
        rw [← hl] at hc hk
        simp only [List.length_take, List.length_drop] at hk
        rw [if_pos (by omega)]
        simp only [Bool.false_eq_true, if_false]
        rw [List.getElem?_take] at hc
        split at hc
        · rw [List.getElem?_drop] at hc
          rw [List.getElem?_take, if_pos (by omega), List.getElem?_drop, Nat.add_zero]
          exact hc
        · cases hc
      · cases hl
end
theorem mkC {α : Type} {enc : α → AV} [Cell enc] {H : AHeap} (hw : WF H) (x : α) {n bytes : Nat} (hb : n * bytes ≤ 2 ^ 46) (hn : n ≤ 2 ^ 60) : wsem0 (.mks bytes [enc x]) [.int .i64 (n : Int), .int .i64 (n : Int)] H = some (.slc (some (H.next, 0)) 1 n (some n), H.new (List.replicate n (enc x))) ∧
    Made enc 1 H.next (H.new (List.replicate n (enc x))) (.slc (some (H.next, 0)) 1 n (some n)) (List.replicate n x) := by
  have hfl : (List.replicate n [enc x]).flatten = List.replicate n (enc x) := by simp
  refine ⟨?_, some H.next, ?_, by simp⟩
  · rw [← hfl]; exact wsem0_mks hb (by simp) (by simp [Cell.cell]) (by omega)
  · have := hw.own_new (enc := enc) (sz := 1) (l := List.replicate n x) (cs := List.replicate n (enc x)) (cap := some n) (Cell.len _) (by simp) (by simp) (by rw [Cell.flat, List.take_of_length_le (by simp)]; simp)
    simpa using this
theorem IVs.len {D : Nat → Prop} {H : AHeap} : ∀ {vs : List (AV × AV)} {zs : List Int}, IVs D H vs zs → vs.length = zs.length
  | [], [], _ => rfl
  | p :: vs, z :: zs, h => by simp [IVs.len h.2]
  | [], _ :: _, h => h.elim
  | _ :: _, [], h => h.elim
theorem IVs.get {D : Nat → Prop} {H : AHeap} : ∀ {vs : List (AV × AV)} {zs : List Int}, IVs D H vs zs → ∀ (j : Nat), j < vs.length → IV D H (encP (nth vs (j : Int))) (nth zs (j : Int))
  | [], [], _, j, hj => by simp at hj
  | p :: vs, z :: zs, h, 0, _ => h.1
  | p :: vs, z :: zs, h, j + 1, hj => by
    have := IVs.get h.2 j (by simpa using hj)
    simpa [nth, show ((j : Int) + 1).toNat = j + 1 by omega] using this
  | [], _ :: _, h, _, _ => h.elim
  | _ :: _, [], h, _, _ => h.elim
/-- What several results are. -/
def bigZ (z : Int) : Bool := decide (400 < (dig z.natAbs).length)
def resS (zs : List Int) : Int × List (List UInt8) := if zs.any bigZ then (3, List.replicate zs.length []) else (0, zs.map showS)
theorem c467 (Dt : D467 T) {D : Nat → Prop} {H : AHeap} (hw : WF H) (hd : ∀ g, D g → g < H.next) {v : AV} {vs : List (AV × AV)} {zs : List Int} (hv : Rd D encP 2 H v vs) (hz : IVs D H vs zs) (hl : vs.length < 2 ^ 20) (hs : ∀ z ∈ zs, (dig z.natAbs).length < 2 ^ 40) :
    Calls T 467 [v] H fun r H' => Fr H H' ∧ ∃ q, r = .tup [q, .int .i64 (resS zs).1] ∧ Rd D encS 1 H' q (resS zs).2 := by
  refine Calls.fn Dt.pr Dt.fn ?_
  have F := (Fx.start hw hd (ps := [.rd encP 2 v vs, .ivs vs zs]) ⟨hv, hz, trivial⟩).nil encS 1 0
  have hvl := hz.len
  obtain ⟨N, hN⟩ : ∃ N, resS zs = N := ⟨_, rfl⟩
  rw [hN]
  unfold resS at hN
  simp [ir467, hv.sl.len]
  refine W_loop (fun (i : Nat) e X => e 0 = v ∧ e 7 = v ∧ e 8 = .int .i64 vs.length ∧ ∃ j : Nat, i + j = vs.length ∧ e 9 = .int .i64 j ∧ (∀ z ∈ zs.take j, bigZ z = false) ∧ ∃ f, Fx H D [.own encS 1 (e 4) ((zs.map showS).take j) f] [.rd encP 2 v vs, .ivs vs zs] X) id vs.length ?_ ?_
  · exact ⟨rfl, rfl, rfl, 0, by simp, rfl, by simp, none, F⟩
  · rintro i e X ⟨h0, h7, h8, j, hj, h9, hb, f, Fj⟩
    simp [h8, h9]
    refine WB.bool ?_ ?_
    · intro hlt
      simp at hlt
      have hvX : Rd _ encP 2 X v vs := Fj.p.1
      have hzX : IVs _ X vs zs := Fj.p.2.1
      obtain ⟨z, hz'⟩ : ∃ z, nth zs (j : Int) = z := ⟨_, rfl⟩
      have hmem : z ∈ zs := by rw [← hz']; simp [nth, show j < zs.length by omega]
      have hg := hzX.get j hlt
      rw [hz'] at hg
      obtain ⟨s, es, sc, hss⟩ := hg.box
      have F1 := (Fj.add (qs := [.rd encI 1 s (dig z.natAbs)]) ⟨hss, trivial⟩).bx X.next [.bool false, .slc none 0 0 none]
      obtain ⟨X2, s2, F2⟩ := F1.stA 0 rfl 2 [.bool (bel z), s] rfl rfl (by simp [sc])
      have B2 : Box X2 X.next X.next _ := F2.o.1
      have ls : psem .len [s] = some (.int .i64 (dig z.natAbs).length) := hss.sl.len
      simp (disch := omega) [h7, h9, hvX.sl.ia, hvX.sl.ldA (i := (j : Int)) (by omega) (by omega) es, s2, B2.at 1 rfl, ls]
      refine WB.bool ?_ ?_
      · intro hb4
        simp at hb4
        have lv : psem .len [v] = some (.int .i64 vs.length) := hv.sl.len
        obtain ⟨m1, m2⟩ := mkC (enc := encS) F2.wf ([] : List UInt8) (n := vs.length) (bytes := 16) (by omega) (by omega)
        have hany : zs.any bigZ = true := List.any_eq_true.2 ⟨z, hmem, by unfold bigZ; simp; omega⟩
        rw [if_pos hany] at hN
        subst hN
        have fn := F2.wf.fr_new (cs := List.replicate vs.length (encS []))
        simp [h0, lv, m1]
        obtain ⟨f2, F3⟩ := F2.made fn m2
        have G := F3.read
        refine ⟨G.fr, ?_⟩
        have := G.end.2.1
        rwa [hvl] at this ⊢
      · intro hb4
        simp at hb4
        have hb4' : (dig z.natAbs).length < 2 ^ 40 := hs z hmem
        simp [B2.all 2 rfl]
        refine WC.of (c474 Dt.d474 F2.wf F2.dn ⟨s, rfl, F2.p.1⟩ hb4') ?_
        rintro r X3 ⟨fr3, rfl⟩
        have F3 := F2.call fr3
        obtain ⟨v', X4, f', p1, pc, F4⟩ := F3.push 1 rfl 16 (showS z) (by simp; omega) (by simp; omega)
        simp [wsem0_bsl1 (v := .str (showS z)) rfl, p1]
        simp [h0, h7, h8, h9]
        rw [wrap_small (by omega) (by omega)]
        refine ⟨i - 1, by omega, j + 1, by omega, by simp, ?_, f', ?_⟩
        · intro y hy
          rw [take_nth (by omega), hz', List.mem_append, List.mem_singleton] at hy
          rcases hy with hy | rfl
          · exact hb y hy
          · unfold bigZ; simp; omega
        · have e1 : (zs.map showS).take (j + 1) = (zs.map showS).take j ++ [showS z] := by
            rw [← List.map_take, ← List.map_take, take_nth (by omega), hz', List.map_append]; rfl
          rw [e1]
          have G := F4.drop
          exact G.pbs (qs := [.rd encP 2 v vs, .ivs vs zs]) ⟨G.p.2.1, G.p.2.2.1, trivial⟩
    · intro hge
      simp at hge
      rw [List.take_of_length_le (by omega)] at hb
      rw [List.take_of_length_le (by simp; omega)] at Fj
      have hany : ¬ zs.any bigZ = true := by
        intro h
        obtain ⟨z, hz1, hz2⟩ := List.any_eq_true.1 h
        rw [hb z hz1] at hz2; cases hz2
      rw [if_neg hany] at hN
      subst hN
      have G := Fj.read
      simp
      exact ⟨G.fr, G.end.2.1⟩
end Go.Am

/- Contracts of package big: sum, difference, product, quotient, comparison of texts. -/
set_option linter.unusedVariables false
set_option linter.unusedSimpArgs false
namespace Go.Am
variable {T : Tab}
/-- The error of several texts; the number of one. -/
def errS (l : List (List UInt8)) : Int := (numsS l).1
def rdS (s : List UInt8) : Int := (readS s).getD 0
theorem errS_ok {l : List (List UInt8)} (h : errS l = 0) : (numsS l).2 = l.map rdS ∧ ∀ s ∈ l, ∃ z, readS s = some z := by
  unfold errS numsS at *
  split at h
  · simp at h
  · split at h
    · simp at h
    · rename_i h1 h2
      rw [if_neg h1, if_neg h2]
      refine ⟨rfl, fun s hs => ?_⟩
      cases e : readS s with
      | none => exact absurd (List.any_eq_true.2 ⟨s, hs, by rw [e]; rfl⟩) h2
      | some z => exact ⟨z, rfl⟩
theorem readD_len {d : List UInt8} {neg : Bool} {z : Int} (h : readD d neg = some z) : (dig z.natAbs).length ≤ 400 := by
  unfold readD at h
  split at h
  · simp at h; subst h; rw [show (0 : Int).natAbs = 0 from rfl, dig_zero]; simp
  · split at h
    · cases h
    · rename_i hn
      simp only [not_or, Bool.not_eq_false] at hn
      obtain ⟨b1, b2, b3, b4⟩ := hn
      simp at h
      subst h
      rw [sgn_abs, (dig_dl b1 b2 b4).2]
      simp [dl]; omega
theorem rdS_len (s : List UInt8) : (dig (rdS s).natAbs).length ≤ 400 := by
  unfold rdS
  cases e : readS s with
  | none => simp [dig_zero]
  | some z => exact readD_len e
theorem slS1 {H : AHeap} (hw : WF H) (a : List UInt8) : wsem0 (.bsl 1 1 [.str []] [(0, 1)]) [.str a] H = some (.slc (some (H.next, 0)) 1 1 (some 1), H.new [.str a]) ∧ Sl encS 1 (H.new [.str a]) (.slc (some (H.next, 0)) 1 1 (some 1)) [a] := by
  refine ⟨by simp [wsem0, wsem, fill, splice], ?_⟩
  exact (hw.own_new (enc := encS) (l := [a]) (cs := [.str a]) (cap := some 1) (sz := 1) (Cell.len _) (by simp) (by simp) (by simp)).1
theorem slS2 {H : AHeap} (hw : WF H) (a b : List UInt8) : wsem0 (.bsl 1 2 [.str [], .str []] [(0, 1), (1, 1)]) [.str a, .str b] H = some (.slc (some (H.next, 0)) 1 2 (some 2), H.new [.str a, .str b]) ∧ Sl encS 1 (H.new [.str a, .str b]) (.slc (some (H.next, 0)) 1 2 (some 2)) [a, b] := by
  refine ⟨by simp [wsem0, wsem, fill, splice], ?_⟩
  exact (hw.own_new (enc := encS) (l := [a, b]) (cs := [.str a, .str b]) (cap := some 2) (sz := 1) (Cell.len _) (by simp) (by simp) (by simp)).1
section
variable {H0 H : AHeap} {D : Nat → Prop} {os : List Ob} {ps : List Pb}
/-- Texts' numbers. -/
theorem numsF (Dt : D456 T) (F : Fx H0 D os ps H) {v : AV} {l : List (List UInt8)} {H1 : AHeap} (fr : Fr H H1) (hv : Sl encS 1 H1 v l) (hd : ∀ g, fams D os g → g < H.next) (hr : Rd (fams D os) encS 1 H1 v l) (hl : l.length < 2 ^ 20) (hs : ∀ s ∈ l, s.length < 2 ^ 40) :
    Calls T 456 [v] H1 fun r X => ∃ q, r = .tup [q, .int .i64 (errS l)] ∧ Fx H0 D os ps X ∧ (errS l = 0 → ∃ vs, vs.length = l.length ∧ Fx H0 D os (.rd encP 2 q vs :: .ivs vs (l.map rdS) :: ps) X) := by
  have F1 := F.call fr
  refine (c456 Dt F1.wf F1.dn hr hl hs).imp ?_
  rintro r X ⟨frX, q, rfl, h⟩
  refine ⟨q, rfl, F1.call frX, fun e => ?_⟩
  obtain ⟨vs, h1, h2⟩ := h e
  rw [(errS_ok e).1] at h2
  exact ⟨vs, by rw [h2.len]; simp, F1.callR frX (qs := [.rd encP 2 q vs, .ivs vs (l.map rdS)]) ⟨h1, h2, trivial⟩⟩
theorem nums1 (Dt : D456 T) (F : Fx H0 D os ps H) {a : List UInt8} (ha : a.length < 2 ^ 40) :
    Calls T 456 [.slc (some (H.next, 0)) 1 1 (some 1)] (H.new [.str a]) fun r X => ∃ q, r = .tup [q, .int .i64 (errS [a])] ∧ Fx H0 D os ps X ∧ (errS [a] = 0 → ∃ p, Fx H0 D os (.rd encP 2 q [p] :: .iv (encP p) (rdS a) :: ps) X) := by
  have hv := (slS1 F.wf a).2
  have m : Made encS 1 H.next (H.new [.str a]) (.slc (some (H.next, 0)) 1 1 (some 1)) [a] := ⟨some H.next, F.wf.own_new (enc := encS) (l := [a]) (cs := [.str a]) (cap := some 1) (sz := 1) (Cell.len _) (by simp) (by simp) (by simp), by simp⟩
  refine (numsF Dt F F.wf.fr_new hv F.dn (m.rd F.dn) (by simp) (by simpa using ha)).imp ?_
  rintro r X ⟨q, rfl, F1, h⟩
  refine ⟨q, rfl, F1, fun e => ?_⟩
  obtain ⟨vs, hl, F2⟩ := h e
  match vs, hl with
  | [p], _ => exact ⟨p, F1.add (qs := [.rd encP 2 q [p], .iv (encP p) (rdS a)]) ⟨F2.p.1, F2.p.2.1.1, trivial⟩⟩
theorem nums2 (Dt : D456 T) (F : Fx H0 D os ps H) {a b : List UInt8} (ha : a.length < 2 ^ 40) (hb : b.length < 2 ^ 40) :
    Calls T 456 [.slc (some (H.next, 0)) 1 2 (some 2)] (H.new [.str a, .str b]) fun r X => ∃ q, r = .tup [q, .int .i64 (errS [a, b])] ∧ Fx H0 D os ps X ∧ (errS [a, b] = 0 → ∃ p p', Fx H0 D os (.rd encP 2 q [p, p'] :: .iv (encP p) (rdS a) :: .iv (encP p') (rdS b) :: ps) X) := by
  have hv := (slS2 F.wf a b).2
  have m : Made encS 1 H.next (H.new [.str a, .str b]) (.slc (some (H.next, 0)) 1 2 (some 2)) [a, b] := ⟨some H.next, F.wf.own_new (enc := encS) (l := [a, b]) (cs := [.str a, .str b]) (cap := some 2) (sz := 1) (Cell.len _) (by simp) (by simp) (by simp), by simp⟩
  refine (numsF Dt F F.wf.fr_new hv F.dn (m.rd F.dn) (by simp) (by simp; exact ⟨ha, hb⟩)).imp ?_
  rintro r X ⟨q, rfl, F1, h⟩
  refine ⟨q, rfl, F1, fun e => ?_⟩
  obtain ⟨vs, hl, F2⟩ := h e
  match vs, hl with
  | [p, p'], _ => exact ⟨p, p', F1.add (qs := [.rd encP 2 q [p, p'], .iv (encP p) (rdS a), .iv (encP p') (rdS b)]) ⟨F2.p.1, F2.p.2.1.1, F2.p.2.1.2.1, trivial⟩⟩
/-- Two results' texts. -/
def outS2 (y z : Int) : Int × List UInt8 × List UInt8 := if bigZ y || bigZ z then (3, [], []) else (0, showS y, showS z)
theorem res2 (Dt : D467 T) (F : Fx H0 D os ps H) {v w : AV} {y z : Int} (hv : IV (fams D os) H v y) (hw : IV (fams D os) H w z) (hl : (dig y.natAbs).length < 2 ^ 40) (hl2 : (dig z.natAbs).length < 2 ^ 40) :
    ∃ cs, wsem0 (.bsl 2 2 [.bool false, .slc none 0 0 none, .bool false, .slc none 0 0 none] [(0, 2), (2, 2)]) [v, w] H = some (.slc (some (H.next, 0)) 2 2 (some 2), H.new cs) ∧
    Calls T 467 [.slc (some (H.next, 0)) 2 2 (some 2)] (H.new cs) fun r X => ∃ q, r = .tup [q, .int .i64 (outS2 y z).1] ∧ Fx H0 D os (.rd encS 1 q [(outS2 y z).2.1, (outS2 y z).2.2] :: ps) X := by
  obtain ⟨s, rfl, sc, hs⟩ := hv.box
  obtain ⟨t, rfl, tc, ht⟩ := hw.box
  refine ⟨[.bool (bel y), s, .bool (bel z), t], by simp [wsem0, wsem, fill, splice, sc, tc], ?_⟩
  have fn := F.wf.fr_new (cs := [.bool (bel y), s, .bool (bel z), t])
  have m : Made encP 2 H.next (H.new [.bool (bel y), s, .bool (bel z), t]) (.slc (some (H.next, 0)) 2 2 (some 2)) [(AV.bool (bel y), s), (AV.bool (bel z), t)] := ⟨some H.next, F.wf.own_new (enc := encP) (l := [(AV.bool (bel y), s), (AV.bool (bel z), t)]) (cs := [.bool (bel y), s, .bool (bel z), t]) (cap := some 2) (sz := 2) (by simp) (by simp) (by simp) (by simp), by simp⟩
  have F1 := F.callR fn (qs := [.rd encP 2 _ _]) ⟨m.rd F.dn, trivial⟩
  have F2 := (F.add (qs := [.iv (.agg [.bool (bel y), s]) y, .iv (.agg [.bool (bel z), t]) z]) ⟨⟨s, rfl, hs⟩, ⟨t, rfl, ht⟩, trivial⟩).call fn
  refine (c467 Dt F1.wf F1.dn F1.p.1 (zs := [y, z]) ⟨F2.p.1, F2.p.2.1, trivial⟩ (by simp) (by simp; exact ⟨hl, hl2⟩)).imp ?_
  rintro r X ⟨fr, q, rfl, h⟩
  have e : (resS [y, z]).1 = (outS2 y z).1 ∧ (resS [y, z]).2 = [(outS2 y z).2.1, (outS2 y z).2.2] := by
    unfold resS outS2
    cases h : bigZ y <;> cases h' : bigZ z <;> simp [h, h']
  rw [e.1]
  rw [e.2] at h
  exact ⟨q, rfl, (F.call (fn.trans fr)).add (qs := [.rd encS 1 q _]) ⟨h, trivial⟩⟩
end
theorem add_len {m n k : Nat} (hm : (dig m).length ≤ k) (hn : (dig n).length ≤ k) : (dig (m + n)).length ≤ k + 1 := by
  have h1 := dig_len_iff.1 hm
  have h2 := dig_len_iff.1 hn
  refine dig_len_le ?_
  rw [Nat.pow_succ]
  omega
theorem mul_len {m n j k : Nat} (hm : (dig m).length ≤ j) (hn : (dig n).length ≤ k) : (dig (m * n)).length ≤ j + k := by
  have h1 := dig_len_iff.1 hm
  have h2 := dig_len_iff.1 hn
  refine dig_len_le ?_
  rw [Nat.pow_add]
  exact Nat.mul_lt_mul'' h1 h2
end Go.Am

/- Contracts of package big: Div, Compare, Valid, Digits, Int, Pow. -/
set_option linter.unusedVariables false
set_option linter.unusedSimpArgs false
namespace Go.Am
variable {T : Tab}
/-- What Div gives. -/
def divS (a b : List UInt8) : Int × List UInt8 × List UInt8 :=
  if errS [a, b] = 0 then (if rdS b = 0 then (1, [], []) else outS2 (qd (rdS a) (rdS b)) (md (rdS a) (rdS b))) else (errS [a, b], [], [])
theorem natAbs_div_le (x y : Int) : (qd x y).natAbs ≤ x.natAbs + 1 := by
  by_cases hy : y = 0
  · subst hy; unfold qd; simp
  · obtain ⟨l1, l2⟩ := over_law (x := x) hy
    have hq : x.natAbs / y.natAbs ≤ x.natAbs := Nat.div_le_self _ _
    have ha : ∀ b : Bool, (sgn b (x.natAbs / y.natAbs)).natAbs = x.natAbs / y.natAbs := fun b => sgn_abs _ _
    by_cases h : x.natAbs % y.natAbs ≠ 0 ∧ bel x ≠ bel y
    · rw [(l1 h.1 h.2).1]; have := ha (bel x != bel y); omega
    · have h' : x.natAbs % y.natAbs = 0 ∨ bel x = bel y := by
        by_cases h1 : x.natAbs % y.natAbs = 0
        · exact .inl h1
        · exact .inr (Classical.byContradiction fun h2 => h ⟨h1, h2⟩)
      rw [(l2 h').1]; have := ha (bel x != bel y); omega
theorem natAbs_mod_lt (x : Int) {y : Int} (hy : y ≠ 0) : (md x y).natAbs < y.natAbs := by
  obtain ⟨l1, l2⟩ := over_law (x := x) hy
  have hm : x.natAbs % y.natAbs < y.natAbs := Nat.mod_lt _ (by omega)
  by_cases h : x.natAbs % y.natAbs ≠ 0 ∧ bel x ≠ bel y
  · rw [(l1 h.1 h.2).2]
    obtain ⟨h1, h2⟩ := h
    unfold sgn bel at *
    by_cases hx : x < 0 <;> by_cases hy2 : y < 0 <;> simp [hx, hy2] at h2 ⊢ <;> omega
  · have h' : x.natAbs % y.natAbs = 0 ∨ bel x = bel y := by
      by_cases h1 : x.natAbs % y.natAbs = 0
      · exact .inl h1
      · exact .inr (Classical.byContradiction fun h2 => h ⟨h1, h2⟩)
    rw [(l2 h').2, sgn_abs]; exact hm
theorem qd_len {x y : Int} {k : Nat} (h : (dig x.natAbs).length ≤ k) : (dig (qd x y).natAbs).length ≤ k + 1 := by
  have h1 := dig_len_iff.1 h
  have h2 := natAbs_div_le x y
  refine dig_len_le ?_
  rw [Nat.pow_succ]
  have : 0 < 10 ^ k := Nat.pow_pos (by decide)
  omega
theorem md_len {x y : Int} {k : Nat} (hy : y ≠ 0) (h : (dig y.natAbs).length ≤ k) : (dig (md x y).natAbs).length ≤ k :=
  Nat.le_trans (dig_len_mono (Nat.le_of_lt (natAbs_mod_lt x hy))) h
theorem IV.len {D : Nat → Prop} {H : AHeap} {p : AV × AV} {z : Int} (h : IV D H (encP p) z) : psem .len [p.2] = some (.int .i64 (dig z.natAbs).length) ∧ p.1 = .bool (bel z) ∧ Rd D encI 1 H p.2 (dig z.natAbs) := by
  obtain ⟨s, e, hs⟩ := h
  simp only [encP, AV.agg.injEq, List.cons.injEq, and_true] at e
  rw [e.2]
  exact ⟨hs.sl.len, e.1, hs⟩
theorem dig_len0 {n : Nat} : (dig n).length = 0 ↔ n = 0 := by
  rw [List.length_eq_zero_iff, dig_nil]
theorem c416 (Dt : D416 T) {H : AHeap} (hw : WF H) {a b : List UInt8} (ha : a.length < 2 ^ 40) (hb : b.length < 2 ^ 40) :
    Calls T 416 [.str a, .str b] H fun r H' => Fr H H' ∧ r = .tup [.str (divS a b).2.1, .str (divS a b).2.2, .int .i64 (divS a b).1] := by
  refine Calls.fn Dt.pr Dt.fn ?_
  have F := Fx.start hw (D := fun _ => False) (fun _ h => h.elim) (ps := []) trivial
  simp [ir416, (slS2 hw a b).1]
  refine WC.of (nums2 Dt.d456 F ha hb) ?_
  rintro r X ⟨q, rfl, F1, h⟩
  unfold divS
  by_cases e : errS [a, b] = 0
  · obtain ⟨p, p', F2⟩ := h e
    have hq : Rd _ encP 2 X q [p, p'] := F2.p.1
    have hp' : IV _ X (encP p') (rdS b) := F2.p.2.2.1
    have i0 : psem (.ia 2) [q, .int .i64 0] = some (elt q 2 0) := hq.sl.ia (by omega) (by simp)
    have i1 : psem (.ia 2) [q, .int .i64 1] = some (elt q 2 1) := hq.sl.ia (by omega) (by simp)
    have f1 : psem (.fa 1) [elt q 2 1] = some (eltk q 2 1 1) := hq.sl.fa (by omega) (by simp) 1
    have g1 : rsem (.ld 1 false) [eltk q 2 1 1] X = some p'.2 := hq.sl.ldk (by omega) (by simp) 1 rfl
    have l0 : rsem (.ld 2 true) [elt q 2 0] X = some (.agg [p.1, p.2]) := hq.sl.ldA (i := 0) (by omega) (by simp) rfl
    have l1 : rsem (.ld 2 true) [elt q 2 1] X = some (.agg [p'.1, p'.2]) := hq.sl.ldA (i := 1) (by omega) (by simp) rfl
    simp [e, i0, i1, f1, g1, hp'.len.1]
    refine WB.bool ?_ ?_
    · intro h0
      have h0 : rdS b = 0 := by
        have : (dig (rdS b).natAbs).length = 0 := by simpa using h0
        have := dig_len0.1 this
        omega
      simp [h0]
      exact F2.fr
    · intro h0
      have h0 : rdS b ≠ 0 := by
        intro e0
        rw [e0, show (0 : Int).natAbs = 0 from rfl, dig_zero] at h0
        simp at h0
      rw [if_neg h0]
      simp only [W_skip, Wk_seq, W_seq]
      refine W_floats ?_
      simp only [WT_cons, WT_nil]
      simp [-Wk_seq, i0, i1, l0, l1]
      refine WC.of (c466 Dt.d466 F2.wf F2.dn F2.p.2.1 F2.p.2.2.1 h0 (by have := rdS_len a; omega) (by have := rdS_len b; omega)) ?_
      rintro r Y ⟨frY, u, w, rfl, hu, hw'⟩
      obtain ⟨su, rfl, cu, hsu⟩ := hu.box
      obtain ⟨sw, rfl, cw, hsw⟩ := hw'.box
      have F3 := F2.callR frY (qs := [.rd encI 1 su _, .rd encI 1 sw _]) ⟨hsu, hsw, trivial⟩
      have F5 := (F3.bx Y.next [.bool false, .slc none 0 0 none]).bx (Y.next + 1) [.bool false, .slc none 0 0 none]
      have F4 := F3.bx Y.next [.bool false, .slc none 0 0 none]
      obtain ⟨Y6, s6, F6⟩ := F5.stA 1 rfl 2 [.bool (bel (qd (rdS a) (rdS b))), su] rfl rfl (by simp [cu])
      obtain ⟨Y7, s7, F7⟩ := F6.stA 0 rfl 2 [.bool (bel (md (rdS a) (rdS b))), sw] rfl rfl (by simp [cw])
      have hq3 : Rd _ encP 2 Y q [p, p'] := F3.p.2.2.1
      have hq4 : Rd _ encP 2 _ q [p, p'] := F4.p.2.2.1
      have hq5 : Rd _ encP 2 _ q [p, p'] := F5.p.2.2.1
      have l0a : rsem (.ld 2 true) [elt q 2 0] Y = some (.agg [p.1, p.2]) := hq3.sl.ldA (i := 0) (by omega) (by simp) rfl
      have l1a : rsem (.ld 2 true) [elt q 2 1] Y = some (.agg [p'.1, p'.2]) := hq3.sl.ldA (i := 1) (by omega) (by simp) rfl
      have l0b : rsem (.ld 2 true) [elt q 2 0] (Y.new [.bool false, .slc none 0 0 none]) = some (.agg [p.1, p.2]) := hq4.sl.ldA (i := 0) (by omega) (by simp) rfl
      have l1b : rsem (.ld 2 true) [elt q 2 1] (Y.new [.bool false, .slc none 0 0 none]) = some (.agg [p'.1, p'.2]) := hq4.sl.ldA (i := 1) (by omega) (by simp) rfl
      have l0c : rsem (.ld 2 true) [elt q 2 0] ((Y.new [.bool false, .slc none 0 0 none]).new [.bool false, .slc none 0 0 none]) = some (.agg [p.1, p.2]) := hq5.sl.ldA (i := 0) (by omega) (by simp) rfl
      have l1c : rsem (.ld 2 true) [elt q 2 1] ((Y.new [.bool false, .slc none 0 0 none]).new [.bool false, .slc none 0 0 none]) = some (.agg [p'.1, p'.2]) := hq5.sl.ldA (i := 1) (by omega) (by simp) rfl
      simp [-Wk_seq, new_next, s6, s7]
      simp [-Wk_seq, floatOk, wanted, AV.same_refl, l0, l1, l0a, l1a, l0b, l1b, l0c, l1c]
      have B9 : Box _ Y.next Y.next _ := F7.o.2.1
      have B10 : Box _ (Y.next + 1) (Y.next + 1) _ := F7.o.1
      obtain ⟨cs, t1, hc⟩ := res2 Dt.d467 F7 (y := qd (rdS a) (rdS b)) (z := md (rdS a) (rdS b)) ⟨su, rfl, F7.p.1⟩ ⟨sw, rfl, F7.p.2.1⟩ (by have := qd_len (y := rdS b) (rdS_len a); omega) (by have := md_len (x := rdS a) h0 (rdS_len b); omega)
      simp [B9.all 2 rfl, B10.all 2 rfl, t1]
      refine WC.of hc ?_
      rintro r Z ⟨q2, rfl, F8⟩
      have hq2 : Rd _ encS 1 Z q2 _ := F8.p.1
      have j0 : psem (.ia 1) [q2, .int .i64 0] = some (elt q2 1 0) := hq2.sl.ia (by omega) (by simp)
      have j1 : psem (.ia 1) [q2, .int .i64 1] = some (elt q2 1 1) := hq2.sl.ia (by omega) (by simp)
      have m0 : rsem (.ld 1 false) [elt q2 1 0] Z = some (.str (outS2 (qd (rdS a) (rdS b)) (md (rdS a) (rdS b))).2.1) := hq2.sl.ld (by omega) (by simp)
      have m1 : rsem (.ld 1 false) [elt q2 1 1] Z = some (.str (outS2 (qd (rdS a) (rdS b)) (md (rdS a) (rdS b))).2.2) := hq2.sl.ld (by omega) (by simp)
      simp [j0, j1, m0, m1]
      exact F8.fr
  · simp [e]
    exact F1.fr
end Go.Am
