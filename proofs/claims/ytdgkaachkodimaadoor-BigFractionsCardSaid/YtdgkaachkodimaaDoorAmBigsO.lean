/- Contracts of package big: Fraction. -/
import Derived.Test.YtdgkaachkodimaaDoorAmBigsH
set_option linter.unusedVariables false
set_option linter.unusedSimpArgs false
namespace Go.Am
variable {T : Tab}
/-- Zeros behind a slice that has no room. -/
theorem grow_clip {H : AHeap} (hw : WF H) {p : Option (Nat × Nat)} {sv : Nat} {l : List Int} (hv : Sl encI 1 H (.slc p sv l.length (some l.length)) l) (hl : l.length < 2 ^ 30) {m : Nat} (hm : m < 2 ^ 30) :
    ∃ v' H', wsem0 (.grow 1 8 [.int .i64 0]) [.slc p sv l.length (some l.length), .int .i64 (m : Int)] H = some (v', H') ∧ Sl encI 1 H' v' (l ++ List.replicate m 0) ∧ Fr H H' := by
  have fl : ∀ m : List Int, m.flatMap (fun x => (encI x).cells) = m.map encI := by
    intro m
    induction m with
    | nil => rfl
    | cons a m ih => rw [List.flatMap_cons, ih]; rfl
  have e0 : wsem0 (.grow 1 8 [.int .i64 0]) [.slc p sv l.length (some l.length), .int .i64 (m : Int)] H = H.app 1 8 p sv l.length (some l.length) m (List.replicate m (.int .i64 0)) := by
    have : (List.replicate m [AV.int .i64 0]).flatten = List.replicate m (.int .i64 0) := by simp
    simp only [wsem0, wsem]
    rw [if_pos ⟨by omega, by omega, by omega⟩, Int.toNat_natCast, this]
  rw [e0]
  by_cases h0 : m = 0
  · subst h0
    unfold AHeap.app
    rw [if_pos rfl]
    exact ⟨_, _, rfl, by simpa using hv, .refl hw⟩
  · have hres : H.app 1 8 p sv l.length (some l.length) m (List.replicate m (.int .i64 0)) = some (.slc (some (H.next, 0)) 1 (l.length + m) none, H.new ((l ++ List.replicate m 0).map encI)) := by
      have hall : (List.replicate m (AV.int .i64 0)).all AV.cell = true := by simp
      have mapr : (List.replicate m (0 : Int)).map encI = List.replicate m (.int .i64 0) := by simp
      unfold AHeap.app
      rw [if_neg h0, if_neg (by rw [hall]; simp; omega)]
      cases p with
      | none =>
        have : l = [] := by
          obtain ⟨_, p, sv', cap, e, _, h2⟩ := hv
          cases p with
          | none => exact h2
          | some q => simp at e
        subst this
        simp
      | some q =>
        obtain ⟨b, off⟩ := q
        by_cases hl0 : l.length = 0
        · have : l = [] := List.eq_nil_of_length_eq_zero hl0
          subst this
          simp
        · simp only
          rw [if_neg (fun h => hl0 h.1)]
          obtain ⟨hz, p', sv', cap', e, hcap, h2⟩ := hv
          simp only [AV.slc.injEq] at e
          obtain ⟨e1, e2, _, e3⟩ := e
          subst e1
          obtain ⟨h3, f, cs, h4, h5, h6⟩ := h2
          rw [h4]
          simp only
          rw [if_pos ⟨by rw [e2]; exact h3, by simpa using h5⟩, if_neg (show ¬ l.length + m ≤ l.length by omega)]
          simp only [Nat.mul_one] at h6 ⊢
          rw [h6, fl, List.map_append, mapr]
    rw [hres]
    refine ⟨_, _, rfl, ?_, hw.fr_new⟩
    have ho := hw.own_new (enc := encI) (sz := 1) (l := l ++ List.replicate m 0) (cs := (l ++ List.replicate m 0).map encI) (cap := none) (Cell.len _) (by simp) (by simp) (by rw [fl, List.take_of_length_le]; simp)
    simpa using ho.1
/-- The digits of a quotient that is rounded, and its text. -/
def fracN (x y : Nat) : Nat := if y ≤ x % y + x % y then x / y + 1 else x / y
def fracD (p : Nat) (q : Nat) : List Int := List.replicate (p + 1 - (dig q).length) 0 ++ dig q
def fracW (D : List Int) (c j : Nat) : List UInt8 := (List.range j).flatMap fun i => (if i = c then [46] else []) ++ [chS (nth D (i : Int))]
def fracT (neg : Bool) (p q : Nat) : List UInt8 := (if neg && decide (q ≠ 0) then [45] else []) ++ fracW (fracD p q) ((fracD p q).length - p) (fracD p q).length
def fracS (a b : List UInt8) (p : Int) : Int × List UInt8 :=
  if errS [a, b] = 0 then (if rdS b = 0 ∨ p < 0 ∨ 200 < p then (1, []) else (0, fracT (bel (rdS a) != bel (rdS b)) p.toNat (fracN ((rdS a).natAbs * 10 ^ p.toNat) (rdS b).natAbs))) else (errS [a, b], [])
theorem fracW_succ (D : List Int) (c j : Nat) : fracW D c (j + 1) = fracW D c j ++ ((if j = c then [46] else []) ++ [chS (nth D (j : Int))]) := by simp [fracW, List.range_succ]
theorem fracW_len (D : List Int) (c : Nat) : ∀ j, (fracW D c j).length ≤ 2 * j
  | 0 => by simp [fracW]
  | j + 1 => by
    rw [fracW_succ, List.length_append, List.length_append]
    have := fracW_len D c j
    split <;> simp <;> omega
theorem trimZ_scaled (x p : Nat) : trimZ (dig x ++ List.replicate p 0) = dig (x * 10 ^ p) := by
  have key : ∀ p, fd ((dig x).length + p) (x * 10 ^ p) = dig x ++ List.replicate p 0 := by
    intro p
    induction p with
    | zero => simp; exact dig_fd.symm
    | succ p ih =>
      rw [← Nat.add_assoc, fd_succ, Nat.pow_succ, ← Nat.mul_assoc, Nat.mul_div_cancel _ (by decide), Nat.mul_mod_left, ih, List.replicate_succ', ← List.append_assoc]
      rfl
  rw [← key]
  refine trimZ_fd _ _ ?_
  have := dig_lt x
  rw [Nat.pow_add]
  exact Nat.mul_lt_mul_of_pos_right this (Nat.pow_pos (by decide))
theorem c414 (Dt : D414 T) {H : AHeap} (hw : WF H) {a b : List UInt8} {pl : Int} (ha : a.length < 2 ^ 40) (hb : b.length < 2 ^ 40) :
    Calls T 414 [.str a, .str b, .int .i64 pl] H fun r H' => Fr H H' ∧ r = .tup [.str (fracS a b pl).2, .int .i64 (fracS a b pl).1] := by
  refine Calls.fn Dt.pr Dt.fn ?_
  have F := Fx.start hw (D := fun _ => False) (fun _ h => h.elim) (ps := []) trivial
  simp [ir414, (slS2 hw a b).1]
  refine WC.of (nums2 Dt.d456 F ha hb) ?_
  rintro r X ⟨q, rfl, F1, h⟩
  unfold fracS
  by_cases e : errS [a, b] = 0
  · have he := e
    obtain ⟨p, p', F2⟩ := h e
    have hq : Rd _ encP 2 X q [p, p'] := F2.p.1
    obtain ⟨la, ba, ra⟩ := (show IV _ X (encP p) (rdS a) from F2.p.2.1).len
    obtain ⟨lb, bb, rb⟩ := (show IV _ X (encP p') (rdS b) from F2.p.2.2.1).len
    have i0 : psem (.ia 2) [q, .int .i64 0] = some (elt q 2 0) := hq.sl.ia (by omega) (by simp)
    have i1 : psem (.ia 2) [q, .int .i64 1] = some (elt q 2 1) := hq.sl.ia (by omega) (by simp)
    have f00 : psem (.fa 0) [elt q 2 0] = some (eltk q 2 0 0) := hq.sl.fa (by omega) (by simp) 0
    have f01 : psem (.fa 1) [elt q 2 0] = some (eltk q 2 0 1) := hq.sl.fa (by omega) (by simp) 1
    have f10 : psem (.fa 0) [elt q 2 1] = some (eltk q 2 1 0) := hq.sl.fa (by omega) (by simp) 0
    have f11 : psem (.fa 1) [elt q 2 1] = some (eltk q 2 1 1) := hq.sl.fa (by omega) (by simp) 1
    have lds : ∀ {D : Nat → Prop} {Y : AHeap}, Rd D encP 2 Y q [p, p'] → rsem (.ld 1 false) [eltk q 2 0 0] Y = some (.bool (bel (rdS a))) ∧ rsem (.ld 1 false) [eltk q 2 0 1] Y = some p.2 ∧ rsem (.ld 1 false) [eltk q 2 1 0] Y = some (.bool (bel (rdS b))) ∧ rsem (.ld 1 false) [eltk q 2 1 1] Y = some p'.2 :=
      fun h => ⟨h.sl.ldk (by omega) (by simp) 0 (by show some p.1 = _; rw [ba]), h.sl.ldk (by omega) (by simp) 1 rfl, h.sl.ldk (by omega) (by simp) 0 (by show some p'.1 = _; rw [bb]), h.sl.ldk (by omega) (by simp) 1 rfl⟩
    obtain ⟨g1, g2, g3, g4⟩ := lds F2.p.1
    rw [if_pos e]
    simp [e, i1, f11, g4, lb]
    by_cases hbad : rdS b = 0 ∨ pl < 0 ∨ 200 < pl
    · rw [if_pos hbad]
      by_cases h0 : rdS b = 0
      · simp [h0, dig_zero]
        exact F2.fr
      · have hne : ¬ (dig (rdS b).natAbs).length = 0 := fun h => h0 (by have := dig_len0.1 h; omega)
        have hne' : ¬ dig (rdS b).natAbs = [] := fun h => hne (by rw [h]; rfl)
        by_cases h1 : pl < 0
        · simp [hne, hne', h1]
          exact F2.fr
        · have h2 : 200 < pl := (hbad.resolve_left h0).resolve_left h1
          simp [hne, hne', h1, h2]
          exact F2.fr
    · rw [if_neg hbad]
      have h0 : rdS b ≠ 0 := fun h => hbad (.inl h)
      have hne : ¬ (dig (rdS b).natAbs).length = 0 := fun h => h0 (by have := dig_len0.1 h; omega)
      have hne' : ¬ dig (rdS b).natAbs = [] := fun h => hne (by rw [h]; rfl)
      have h1 : ¬ pl < 0 := fun h => hbad (.inr (.inl h))
      have h2 : ¬ 200 < pl := fun h => hbad (.inr (.inr h))
      obtain ⟨k, rfl⟩ : ∃ k : Nat, pl = k := ⟨pl.toNat, by omega⟩
      simp [hne, hne', h1, h2]
      obtain ⟨x, hx⟩ : ∃ x, (rdS a).natAbs = x := ⟨_, rfl⟩
      obtain ⟨y, hy⟩ : ∃ y, (rdS b).natAbs = y := ⟨_, rfl⟩
      have lx := rdS_len a
      have ly := rdS_len b
      rw [hx] at lx ra la
      rw [hy] at ly rb lb
      have y0 : 0 < y := by omega
      rw [hx, hy]
      simp [i0, f01, g2]
      refine WC.of (c457 Dt.d457 ra.sl (by omega)) ?_
      rintro r X1 ⟨rfl, hr, pp, sv, rfl⟩
      obtain ⟨v', Y, gr1, gr2, gr3⟩ := grow_clip F2.wf hr (by omega) (m := k) (by omega)
      simp [gr1]
      have F3 := F2.call gr3
      obtain ⟨g1, g2, g3, g4⟩ := lds F3.p.1
      have rb3 : Rd _ encI 1 Y p'.2 (dig y) := (show IV _ Y (encP p') (rdS b) from F3.p.2.2.1).len.2.2 |> fun h => by rw [hy] at h; exact h
      refine W_floats ?_
      simp only [WT_cons, WT_nil]
      simp [-Wk_seq]
      refine WC.of (c458 Dt.d458 gr2 (by simp; omega)) ?_
      rintro r X2 ⟨rfl, hr2, _⟩
      rw [trimZ_scaled] at hr2
      have lxk : (dig (x * 10 ^ k)).length ≤ 401 + k := by
        refine Nat.le_trans (mul_len lx (n := 10 ^ k) (k := k + 1) (dig_len_le ?_)) (by omega)
        rw [Nat.pow_succ]
        have : 0 < 10 ^ k := Nat.pow_pos (by decide)
        omega
      simp [-Wk_seq, i1, f11, g4]
      refine WC.of (c459 Dt.d459 F3.wf hr2 rb3.sl y0 (by omega) (by omega)) ?_
      rintro r Z ⟨frZ, qv, rv, rfl, mq, mr⟩
      have F4 := F3.callR frZ (qs := [.rd encI 1 qv _, .rd encI 1 rv _]) ⟨mq.rd F3.dn, mr.rd F3.dn, trivial⟩
      obtain ⟨g1', g2', g3', g4'⟩ := lds F4.p.2.2.1
      simp [-Wk_seq]
      simp [-Wk_seq, floatOk, wanted, AV.same_refl, i1, f11, g4]
      rw [Wk_seq]
      obtain ⟨n, hn⟩ : ∃ n, x * 10 ^ k = n := ⟨_, rfl⟩
      rw [hn] at lxk F4 ⊢
      have lq : (dig (n / y)).length ≤ 401 + k := Nat.le_trans (dig_len_mono (Nat.div_le_self _ _)) lxk
      have lr : (dig (n % y)).length ≤ 400 := Nat.le_trans (dig_len_mono (Nat.le_of_lt (Nat.mod_lt _ y0))) ly
      obtain ⟨Q, hQ⟩ : ∃ Q, fracN n y = Q := ⟨_, rfl⟩
      rw [hQ]
      have lQ : (dig Q).length ≤ 402 + k := by
        have : Q ≤ n / y + 1 := by rw [← hQ]; unfold fracN; split <;> omega
        exact Nat.le_trans (dig_len_mono this) (Nat.le_trans (add_len lq (n := 1) (Nat.le_trans (dig_small (by decide)) (by omega))) (by omega))
      refine W_cut (fun e W => e 2 = .int .i64 k ∧ e 8 = q ∧ Fx H (fun _ => False) [] [.rd encI 1 (e 11) (dig Q), .rd encP 2 q [p, p']] W) ?_ ?_
      · simp only [W_seq]
        refine W_floats ?_
        simp only [WT_cons, WT_nil]
        simp
        refine WC.of (c460 Dt.d460 F4.wf F4.p.2.1.sl F4.p.2.1.sl (by omega) (by omega)) ?_
        rintro r2 W1 ⟨fr1, m1⟩
        have F5 := F4.callR fr1 (qs := [.rd encI 1 r2 _]) ⟨m1.rd F4.dn, trivial⟩
        obtain ⟨_, _, _, g4''⟩ := lds F5.p.2.2.2.1
        have rb5 : Rd _ encI 1 W1 p'.2 (dig y) := (show IV _ W1 (encP p') (rdS b) from F5.p.2.2.2.2.2.1).len.2.2 |> fun h => by rw [hy] at h; exact h
        have l2 : (dig (n % y + n % y)).length ≤ 401 := add_len lr lr
        simp [i1, f11, g4'']
        refine WC.of (c461 Dt.d461 F5.p.1.sl rb5.sl (by omega) (by omega)) ?_
        rintro r5 W5 ⟨rfl, rfl⟩
        have hcd : (if (dig (n % y + n % y)).length = (dig y).length then cmpL (dig (n % y + n % y)) (dig y) else ((dig (n % y + n % y)).length : Int) - (dig y).length) = cmpD (n % y + n % y) y := rfl
        rw [hcd]
        simp [floatOk, wanted, AV.same_refl, i1, f11, g4', g4'']
        by_cases hle : y ≤ n % y + n % y
        · have hc := cmpD_ge.2 hle
          have eQ : Q = n / y + 1 := by rw [← hQ]; unfold fracN; rw [if_pos hle]
          simp [hc]
          refine WC.of (c462 Dt.d462 F5.wf (n := 1) (by decide)) ?_
          rintro r6 W6 ⟨fr6, m6⟩
          have F6 := F5.callR fr6 (qs := [.rd encI 1 r6 _]) ⟨m6.rd F5.dn, trivial⟩
          simp
          refine WC.of (c460 Dt.d460 F6.wf F6.p.2.2.1.sl F6.p.1.sl (by omega) (Nat.lt_of_le_of_lt (dig_small (by decide)) (by decide))) ?_
          rintro r7 W7 ⟨fr7, m7⟩
          have F7 := F6.callR fr7 (qs := [.rd encI 1 r7 _]) ⟨m7.rd F6.dn, trivial⟩
          simp
          rw [eQ]
          exact F7.pbs ⟨F7.p.1, F7.p.2.2.2.2.2.1, trivial⟩
        · have hc : ¬ 0 ≤ cmpD (n % y + n % y) y := fun h => hle (cmpD_ge.1 h)
          have eQ : Q = n / y := by rw [← hQ]; unfold fracN; rw [if_neg hle]
          simp [hc]
          rw [eQ]
          exact F5.pbs ⟨F5.p.2.1, F5.p.2.2.2.1, trivial⟩
      · rintro e W ⟨e2, e8, FW⟩
        obtain ⟨zs, hzs⟩ : ∃ zs, k + 1 - (dig Q).length = zs := ⟨_, rfl⟩
        have w1 : IntKind.i64.wrap ((k : Int) + 1) = (k : Int) + 1 := wrap_small (by omega) (by omega)
        have w2 : IntKind.i64.wrap ((k : Int) + 1 - (dig Q).length) = (k : Int) + 1 - (dig Q).length := wrap_small (by omega) (by omega)
        have w3 : max (0 : Int) ((k : Int) + 1 - (dig Q).length) = (zs : Int) := by omega
        obtain ⟨mk1, mk2⟩ := mkC (enc := encI) FW.wf (0 : Int) (n := zs) (bytes := 8) (by omega) (by omega)
        have mk1 : wsem0 (.mks 8 [.int .i64 0]) [.int .i64 (zs : Int), .int .i64 (zs : Int)] W = _ := mk1
        obtain ⟨f, FW1⟩ := FW.made FW.wf.fr_new mk2
        obtain ⟨dv, W2, f', ap1, ap2, FW2⟩ := FW1.appd 0 rfl 8 FW1.p.1.sl (by simp) (Cell.all _) (by simp; omega) (by simp; omega)
        have hD : List.replicate zs (0 : Int) ++ dig Q = fracD k Q := by unfold fracD; rw [hzs]
        rw [hD] at FW2
        have FW3 := FW2.read
        obtain ⟨bl, Fb⟩ := FW3.bld 76 5
        obtain ⟨W3, hW3⟩ : ∃ W3, (W2.new [.ptr none, .slc none 0 0 none]).tag W2.next 76 = W3 := ⟨_, rfl⟩
        rw [hW3] at bl Fb
        obtain ⟨nb, hnb⟩ : ∃ nb, W2.next = nb := ⟨_, rfl⟩
        rw [hnb] at bl Fb
        have lq2 : psem .len [e 11] = some (.int .i64 (dig Q).length) := FW.p.1.sl.len
        obtain ⟨g1, g2, g3, g4⟩ := lds Fb.p.2.2.1
        obtain ⟨neg, hneg⟩ : ∃ neg, (bel (rdS a) != bel (rdS b)) = neg := ⟨_, rfl⟩
        have hneg2 : (!(bel (rdS a) == bel (rdS b))) = neg := hneg
        have lD : (fracD k Q).length = max (dig Q).length (k + 1) := by unfold fracD; simp; omega
        simp [-Wk_seq, e2, lq2, w1, w2, w3, mk1, ap1, bl]
        rw [Wk_seq]
        simp [-Wk_seq, bl]
        rw [Wk_seq]
        obtain ⟨sg, hsg⟩ : ∃ sg : List UInt8, (if neg && decide (Q ≠ 0) then [45] else []) = sg := ⟨_, rfl⟩
        refine W_cut (fun e W => e 2 = .int .i64 k ∧ e 13 = dv ∧ e 14 = .ptr (some (nb, 0)) ∧ ∃ f, Fx H (fun _ => False) [.bld 76 5 nb sg f] [.rd encI 1 dv (fracD k Q)] W) ?_ ?_
        · cases neg with
          | false =>
            simp [e2, e8, i0, i1, f00, f10, g1, g3, hneg2]
            simp at hsg
            subst hsg
            exact ⟨none, Fb.pbs ⟨Fb.p.1, trivial⟩⟩
          | true =>
            by_cases hQ0 : Q = 0
            · have h00 : (dig Q).length = 0 := by rw [hQ0, dig_zero]; rfl
              simp [e2, e8, i0, i1, f00, f10, g1, g3, hneg2, lq2, h00]
              simp [hQ0] at hsg
              subst hsg
              exact ⟨none, Fb.pbs ⟨Fb.p.1, trivial⟩⟩
            · have hp := dig_pos_len.2 hQ0
              simp [e2, e8, i0, i1, f00, f10, g1, g3, hneg2, lq2, hp]
              simp [hQ0] at hsg
              subst hsg
              obtain ⟨b1, b2⟩ := Fb.bldN 0 rfl
              refine WC.of (c463 Dt.d463 Fb.wf (c := 45) b2 b1 (by simp)) ?_
              rintro r Y ⟨w1, k1, rfl, f', hb, hf⟩
              have G := Fb.bldW 0 rfl w1 k1 hb hf
              simp [e2]
              exact ⟨f', G.pbs ⟨G.p.1, trivial⟩⟩
        · rintro e W ⟨e2, e13, e14, f, FW⟩
          obtain ⟨L, hL⟩ : ∃ L, (fracD k Q).length = L := ⟨_, rfl⟩
          rw [hL] at lD
          have ldv : psem .len [dv] = some (.int .i64 L) := by
            have := (show Rd _ encI 1 W dv (fracD k Q) from FW.p.1).sl.len
            rw [hL] at this; exact this
          have sgl : sg.length ≤ 1 := by rw [← hsg]; split <;> simp
          have wc : IntKind.i64.wrap ((L : Int) - k) = ((L - k : Nat) : Int) := by rw [wrap_small (by omega) (by omega)]; omega
          simp [e13, ldv]
          refine W_loop (fun (i : Nat) e X => e 2 = .int .i64 k ∧ e 13 = dv ∧ e 14 = .ptr (some (nb, 0)) ∧ e 94 = dv ∧ e 95 = .int .i64 L ∧ ∃ j : Nat, i + j = L ∧ e 96 = .int .i64 j ∧ ∃ f, Fx H (fun _ => False) [.bld 76 5 nb (sg ++ fracW (fracD k Q) (L - k) j) f] [.rd encI 1 dv (fracD k Q)] X) id L ?_ ?_
          · exact ⟨by simp [e2], by simp [e13], by simp [e14], rfl, rfl, 0, by simp, rfl, f, by simpa [fracW] using FW⟩
          · rintro i e X ⟨e2, e13, e14, e94, e95, j, hj, e96, f, G⟩
            simp [e95, e96]
            refine WB.bool ?_ ?_
            · intro hlt
              simp at hlt
              have hdX : Rd _ encI 1 X dv (fracD k Q) := G.p.1
              obtain ⟨d, hd'⟩ : ∃ d, nth (fracD k Q) (j : Int) = d := ⟨_, rfl⟩
              have hmem : d ∈ fracD k Q := by rw [← hd']; simp [nth, show j < (fracD k Q).length by omega]
              have d09 : 0 ≤ d ∧ d ≤ 9 := by
                unfold fracD at hmem
                rcases List.mem_append.1 hmem with h | h
                · have := (List.mem_replicate.1 h).2; omega
                · exact dig_mem _ d h
              have ec := chS_nat d09.1 d09.2
              have w1 : IntKind.i64.wrap (48 + d) = 48 + d := wrap_small (by omega) (by omega)
              have w2 : IntKind.u8.wrap (48 + d) = ((chS d).toNat : Int) := by
                rw [ec]; simp [IntKind.wrap, IntKind.bits, IntKind.signed]; omega
              have fwl := fracW_len (fracD k Q) (L - k) j
              simp [-Wk_seq]
              rw [Wk_seq, W_seq, W_block, W_seq]
              simp (disch := omega) [-Wk_seq, e94, e96, hdX.sl.ia, hdX.sl.ld, hL, hd']
              rw [Wk_seq]
              refine W_cut (fun e X => e 2 = .int .i64 k ∧ e 13 = dv ∧ e 14 = .ptr (some (nb, 0)) ∧ e 94 = dv ∧ e 95 = .int .i64 L ∧ e 96 = .int .i64 j ∧ e 16 = .int .i64 d ∧ ∃ f, Fx H (fun _ => False) [.bld 76 5 nb (sg ++ fracW (fracD k Q) (L - k) j ++ (if j = L - k then [46] else [])) f] [.rd encI 1 dv (fracD k Q)] X) ?_ ?_
              · by_cases hjc : j = L - k
                · have hjc' : (j : Int) = ((L - k : Nat) : Int) := by omega
                  simp [e2, e13, e96, ldv, wc, hjc']
                  obtain ⟨b1, b2⟩ := G.bldN 0 rfl
                  have hlen : (sg ++ fracW (fracD k Q) (L - k) j).length < 2 ^ 45 := by simp; omega
                  simp [e14, hjc]
                  refine WC.of (c463 Dt.d463 G.wf (c := 46) b2 b1 hlen) ?_
                  rintro r Y ⟨w1, k1, rfl, f', hb, hf⟩
                  have G' := G.bldW 0 rfl w1 k1 hb hf
                  simp [e2, e13, e14, e94, e95]
                  refine ⟨by rw [e96, hjc], f', ?_⟩
                  rw [← List.append_assoc]
                  rw [hjc] at G'
                  exact G'
                · have hjc' : ¬ (j : Int) = ((L - k : Nat) : Int) := by omega
                  simp [e2, e13, e14, e94, e95, e96, ldv, wc, hjc, hjc']
                  exact ⟨f, G⟩
              · rintro e X ⟨e2, e13, e14, e94, e95, e96, e16, f, G⟩
                simp [e16, w1, w2, e14]
                obtain ⟨b1, b2⟩ := G.bldN 0 rfl
                have hlen : (sg ++ fracW (fracD k Q) (L - k) j ++ (if j = L - k then [46] else [])).length < 2 ^ 45 := by
                  rw [List.length_append, List.length_append]
                  split <;> simp <;> omega
                refine WC.of (c463 Dt.d463 G.wf b2 b1 hlen) ?_
                rintro r Y ⟨w1, k1, rfl, f', hb, hf⟩
                have G' := G.bldW 0 rfl w1 k1 hb hf
                simp [e2, e13, e14, e94, e95, e96]
                rw [wrap_small (by omega) (by omega)]
                refine ⟨i - 1, by omega, j + 1, by omega, by simp, f', ?_⟩
                rw [fracW_succ, hd', ← List.append_assoc, ← List.append_assoc]
                exact G'
            · intro hge
              simp at hge
              have hjL : j = L := by omega
              subst hjL
              obtain ⟨b1, b2⟩ := G.bldN 0 rfl
              have fwl := fracW_len (fracD k Q) (j - k) j
              have hsn : sg ++ fracW (fracD k Q) (j - k) j ≠ [] := by
                obtain ⟨m, rfl⟩ : ∃ m, j = m + 1 := ⟨j - 1, by omega⟩
                rw [fracW_succ]
                simp
              simp [e14]
              refine WC.of (c261 Dt.d261 G.wf b1 hsn (by simp; omega)) ?_
              rintro r Y ⟨w1, k1, rfl⟩
              have E := G.bldE w1 k1
              simp
              refine ⟨E.fr, ?_⟩
              unfold fracT
              rw [hL, hneg, hsg]
  · simp [e]
    exact F1.fr
end Go.Am

/- The greatest common divisor, and the numbers that make it: the plain law. -/
set_option linter.unusedVariables false
set_option linter.unusedSimpArgs false
namespace Go.Am
/-- What the loop reckons. -/
def eg : Nat → Int → Int → Int → Int → Int → Int → Int × Int × Int
  | 0, r0, _, x0, _, y0, _ => (r0, x0, y0)
  | n + 1, r0, r1, x0, x1, y0, y1 => if r1 = 0 then (r0, x0, y0) else eg n r1 (md r0 r1) x1 (x0 - qd r0 r1 * x1) y1 (y0 - qd r0 r1 * y1)
def gcdS (a b : Int) : Int × Int × Int :=
  let r := eg (b.natAbs + 1) a b 1 0 0 1
  if bel r.1 then (-r.1, -r.2.1, -r.2.2) else r
structure EgJ (a b r0 r1 x0 x1 : Int) : Prop where
  ex : ∃ (s t : Bool) (R0 R1 X0 X1 : Nat), r0 = sgn s R0 ∧ r1 = sgn s R1 ∧ x0 = sgn t X0 ∧ x1 = sgn (!t) X1 ∧ R0 * X1 + R1 * X0 = b.natAbs ∧ R1 < R0 ∧ R0 ≤ b.natAbs ∧ X0 ≤ b.natAbs ∧ (s = true → 0 < R0)
/-- What holds in each round. -/
structure EgI (a b r0 r1 x0 x1 y0 y1 : Int) : Prop where
  z0 : a * x0 + b * y0 = r0
  z1 : a * x1 + b * y1 = r1
  j : (r0 = a ∧ r1 = b ∧ x0 = 1 ∧ x1 = 0 ∧ y0 = 0 ∧ y1 = 1) ∨ (b ≠ 0 ∧ EgJ a b r0 r1 x0 x1)
theorem EgI.init (a b : Int) : EgI a b a b 1 0 0 1 := ⟨by simp, by simp, .inl ⟨rfl, rfl, rfl, rfl, rfl, rfl⟩⟩
theorem qd_same (s : Bool) {m n : Nat} (hn : 0 < n) : qd (sgn s m) (sgn s n) = (m / n : Nat) ∧ md (sgn s m) (sgn s n) = sgn s (m % n) := by
  have e := Nat.div_add_mod m n
  have l := Nat.mod_lt m hn
  obtain ⟨q, hq⟩ : ∃ q, m / n = q := ⟨_, rfl⟩
  obtain ⟨r, hr⟩ : ∃ r, m % n = r := ⟨_, rfl⟩
  rw [hq, hr] at e ⊢
  rw [hr] at l
  have e' : (m : Int) = n * q + r := by exact_mod_cast e.symm
  cases s
  · refine qd_of (q := (q : Int)) ?_ (.inl ⟨by simp [sgn]; omega, by simp [sgn], by simp [sgn]; omega⟩)
    simpa [sgn] using e'
  · refine qd_of (q := (q : Int)) ?_ (.inr ⟨by simp [sgn]; omega, by simp [sgn]; omega, by simp [sgn]⟩)
    simp only [sgn, if_true]
    rw [Int.neg_mul]; omega
theorem md_sgn (a : Int) {b : Int} (hb : b ≠ 0) : md a b = sgn (bel b) (md a b).natAbs := by
  obtain ⟨q, hq⟩ : ∃ q, qd a b = q := ⟨_, rfl⟩
  have key : 0 < b ∧ 0 ≤ md a b ∨ b < 0 ∧ md a b ≤ 0 := by
    unfold md qd
    by_cases h : 0 < b
    · left; rw [if_pos h]
      have := Int.mul_ediv_add_emod a b
      have := Int.emod_nonneg a hb
      omega
    · right; rw [if_neg h]
      have h1 := Int.mul_ediv_add_emod (-a) (-b)
      have h2 := Int.emod_nonneg (-a) (show -b ≠ 0 by omega)
      rw [Int.neg_mul] at h1
      omega
  unfold sgn bel
  rcases key with ⟨h1, h2⟩ | ⟨h1, h2⟩
  · rw [if_neg (by simp; omega)]; omega
  · rw [if_pos (by simp; omega)]; omega
theorem EgI.step {a b r0 r1 x0 x1 y0 y1 : Int} (h : EgI a b r0 r1 x0 x1 y0 y1) (h1 : r1 ≠ 0) : EgI a b r1 (md r0 r1) x1 (x0 - qd r0 r1 * x1) y1 (y0 - qd r0 r1 * y1) := by
  have e0 := h.z0
  have e1 := h.z1
  refine ⟨h.z1, ?_, ?_⟩
  · have m : md r0 r1 = r0 - r1 * qd r0 r1 := rfl
    rw [m]
    obtain ⟨q, hq⟩ : ∃ q, qd r0 r1 = q := ⟨_, rfl⟩
    rw [hq, Int.mul_sub, Int.mul_sub, ← e1, Int.add_mul, ← e0]
    have k1 : a * (q * x1) = a * x1 * q := by rw [Int.mul_comm q x1, Int.mul_assoc]
    have k2 : b * (q * y1) = b * y1 * q := by rw [Int.mul_comm q y1, Int.mul_assoc]
    rw [k1, k2]; omega
  · right
    rcases h.j with ⟨rfl, rfl, rfl, rfl, rfl, rfl⟩ | ⟨hb, ⟨s, t, R0, R1, X0, X1, rfl, rfl, rfl, rfl, j1, j2, j3, j4, j5⟩⟩
    · refine ⟨h1, ⟨bel r1, true, r1.natAbs, (md r0 r1).natAbs, 0, 1, ?_, md_sgn r0 h1, by simp [sgn], by simp [sgn], by omega, natAbs_mod_lt r0 h1, Nat.le_refl _, Nat.zero_le _, fun _ => by omega⟩⟩
      unfold sgn bel; simp; split <;> omega
    · have hR1 : 0 < R1 := by
        cases R1 with
        | zero => exact absurd (by unfold sgn; split <;> rfl) h1
        | succ n => omega
      obtain ⟨q1, q2⟩ := qd_same s (m := R0) hR1
      rw [q1, q2]
      obtain ⟨q, hq⟩ : ∃ q, R0 / R1 = q := ⟨_, rfl⟩
      obtain ⟨r, hr⟩ : ∃ r, R0 % R1 = r := ⟨_, rfl⟩
      have e := Nat.div_add_mod R0 R1
      have l := Nat.mod_lt R0 hR1
      rw [hq, hr] at *
      have bound : X1 ≤ b.natAbs := by
        have : 1 * X1 ≤ R0 * X1 := Nat.mul_le_mul_right _ (by omega)
        omega
      refine ⟨hb, ⟨s, !t, R1, r, X1, X0 + q * X1, rfl, rfl, rfl, ?_, ?_, l, by omega, bound, fun _ => hR1⟩⟩
      · unfold sgn
        cases t
        · simp [Int.mul_neg]
        · simp; omega
      · rw [Nat.mul_add, ← j1, ← e]
        have k1 : R1 * (q * X1) = R1 * q * X1 := by rw [Nat.mul_assoc]
        rw [k1, Nat.add_mul]
        omega
/-- How great they get. -/
theorem EgI.bounds {a b r0 r1 x0 x1 y0 y1 : Int} (h : EgI a b r0 r1 x0 x1 y0 y1) : r0.natAbs ≤ max a.natAbs b.natAbs ∧ r1.natAbs ≤ b.natAbs ∧ x0.natAbs ≤ b.natAbs + 1 ∧ x1.natAbs ≤ b.natAbs + 1 ∧ y0.natAbs ≤ a.natAbs * 2 + 1 ∧ y1.natAbs ≤ a.natAbs * 2 + 1 := by
  rcases h.j with ⟨rfl, rfl, rfl, rfl, rfl, rfl⟩ | ⟨hb, ⟨s, t, R0, R1, X0, X1, e0, e1, e2, e3, j1, j2, j3, j4, j5⟩⟩
  · refine ⟨by omega, by omega, by omega, by omega, by omega, by omega⟩
  · have n0 : r0.natAbs = R0 := by rw [e0, sgn_abs]
    have n1 : r1.natAbs = R1 := by rw [e1, sgn_abs]
    have n2 : x0.natAbs = X0 := by rw [e2, sgn_abs]
    have n3 : x1.natAbs = X1 := by rw [e3, sgn_abs]
    have bound : X1 ≤ b.natAbs := by
      have : 1 * X1 ≤ R0 * X1 := Nat.mul_le_mul_right _ (by omega)
      omega
    have yb : ∀ x y r : Int, a * x + b * y = r → x.natAbs ≤ b.natAbs → r.natAbs ≤ b.natAbs → y.natAbs ≤ a.natAbs + 1 := by
      intro x y r hz hx hr
      have h1 : b.natAbs * y.natAbs ≤ b.natAbs * (a.natAbs + 1) := by
        rw [← Int.natAbs_mul, Nat.mul_add, Nat.mul_one]
        have h2 : (b * y).natAbs ≤ r.natAbs + (a * x).natAbs := by omega
        rw [Int.natAbs_mul a x] at h2
        have h3 : a.natAbs * x.natAbs ≤ a.natAbs * b.natAbs := Nat.mul_le_mul_left _ hx
        rw [Nat.mul_comm b.natAbs a.natAbs]
        omega
      exact Nat.le_of_mul_le_mul_left h1 (by omega)
    have y0b := yb x0 y0 r0 h.z0 (by omega) (by omega)
    have y1b := yb x1 y1 r1 h.z1 (by omega) (by omega)
    refine ⟨by omega, by omega, by omega, by omega, by omega, by omega⟩
theorem len_le {m n k : Nat} (h : n ≤ 2 * m + 1) (hm : (dig m).length ≤ k) : (dig n).length ≤ k + 1 := by
  have := dig_len_iff.1 hm
  refine dig_len_le ?_
  rw [Nat.pow_succ]
  have : 0 < 10 ^ k := Nat.pow_pos (by decide)
  omega
theorem EgI.len {a b r0 r1 x0 x1 y0 y1 : Int} (h : EgI a b r0 r1 x0 x1 y0 y1) {k : Nat} (ha : (dig a.natAbs).length ≤ k) (hb : (dig b.natAbs).length ≤ k) :
    (dig r0.natAbs).length ≤ k ∧ (dig r1.natAbs).length ≤ k ∧ (dig x0.natAbs).length ≤ k + 1 ∧ (dig x1.natAbs).length ≤ k + 1 ∧ (dig y0.natAbs).length ≤ k + 1 ∧ (dig y1.natAbs).length ≤ k + 1 := by
  obtain ⟨b1, b2, b3, b4, b5, b6⟩ := h.bounds
  refine ⟨?_, Nat.le_trans (dig_len_mono b2) hb, len_le (m := b.natAbs) (by omega) hb, len_le (m := b.natAbs) (by omega) hb, len_le (m := a.natAbs) (by omega) ha, len_le (m := a.natAbs) (by omega) ha⟩
  rcases Nat.le_total a.natAbs b.natAbs with h1 | h1
  · exact Nat.le_trans (dig_len_mono (by omega)) hb
  · exact Nat.le_trans (dig_len_mono (by omega)) ha
end Go.Am

/- Contracts of package big: the greatest common divisor. -/
set_option linter.unusedVariables false
set_option linter.unusedSimpArgs false
namespace Go.Am
variable {T : Tab}
/-- Two numbers. -/
def PV (D : Nat → Prop) (H : AHeap) (v : AV) (x y : Int) : Prop := ∃ s t, v = .agg [.bool (bel x), s, .bool (bel y), t] ∧ Rd D encI 1 H s (dig x.natAbs) ∧ Rd D encI 1 H t (dig y.natAbs)
theorem c500 (Dt : D500 T) {D : Nat → Prop} {H : AHeap} (hw : WF H) (hd : ∀ g, D g → g < H.next) {u v : AV} {x y z : Int} (hu : PV D H u x y) (hv : IV D H v z) (hx : (dig x.natAbs).length < 2 ^ 10) (hy : (dig y.natAbs).length < 2 ^ 10) (hz : (dig z.natAbs).length < 2 ^ 10) :
    Calls T 500 [u, v] H fun r H' => Fr H H' ∧ PV D H' r y (x - z * y) := by
  obtain ⟨s, t, rfl, hs, ht⟩ := hu
  obtain ⟨w, rfl, wc, hw'⟩ := hv.box
  have sc := hs.sl.form.1
  have tc := ht.sl.form.1
  refine Calls.fn Dt.pr Dt.fn ?_
  have F := (((Fx.start hw hd (ps := [.rd encI 1 s (dig x.natAbs), .rd encI 1 t (dig y.natAbs), .rd encI 1 w (dig z.natAbs)]) ⟨hs, ht, hw', trivial⟩).bx H.next [.bool (bel x), s, .bool (bel y), t]).bx (H.next + 1) [.bool (bel z), w]).bx (H.next + 2) [.bool false, .slc none 0 0 none, .bool false, .slc none 0 0 none]
  simp [ir500, new_next, Nat.add_assoc, sc, tc, wc]
  obtain ⟨X, hX⟩ : ∃ X, ((H.new [.bool (bel x), s, .bool (bel y), t]).new [.bool (bel z), w]).new [.bool false, .slc none 0 0 none, .bool false, .slc none 0 0 none] = X := ⟨_, rfl⟩
  rw [hX] at F ⊢
  have B2 : Box X H.next H.next _ := F.o.2.2.1
  have B3 : Box X (H.next + 1) (H.next + 1) _ := F.o.2.1
  have P2 : rsem (.ld 2 true) [.ptr (some (H.next, 2))] X = some (.agg [.bool (bel y), t]) := B2.part 2 2 (by simp)
  have P0 : rsem (.ld 2 true) [.ptr (some (H.next, 0))] X = some (.agg [.bool (bel x), s]) := B2.part 0 2 (by simp)
  refine W_floats ?_
  simp only [WT_cons, WT_nil]
  simp [P2, P0, B3.all 2 rfl]
  refine WC.of (c468 Dt.d468 F.wf F.dn (x := z) (y := y) ⟨w, rfl, F.p.2.2.1⟩ ⟨t, rfl, F.p.2.1⟩ (by omega) (by omega)) ?_
  rintro r1 X1 ⟨fr1, h1⟩
  have F1 := F.callR fr1 (qs := [.iv r1 _]) ⟨h1, trivial⟩
  simp
  refine WC.of (c481 Dt.d481 F1.wf F1.dn F1.p.1) ?_
  rintro r2 X2 ⟨fr2, h2⟩
  have F2 := F1.callR fr2 (qs := [.iv r2 _]) ⟨h2, trivial⟩
  have lm : (dig (z * y).natAbs).length ≤ 2 ^ 11 := by
    rw [Int.natAbs_mul]
    exact Nat.le_trans (mul_len (Nat.le_of_lt hz) (Nat.le_of_lt hy)) (by decide)
  simp
  refine WC.of (c470 Dt.d470 F2.wf F2.dn ⟨s, rfl, F2.p.2.2.1⟩ F2.p.1 (by omega) (by rw [Int.natAbs_neg]; omega)) ?_
  rintro r3 X3 ⟨fr3, h3⟩
  obtain ⟨s3, rfl, c3, hs3⟩ := (h3.to (z' := x - z * y) (by omega)).box
  have F3 := F2.callR fr3 (qs := [.rd encI 1 s3 _]) ⟨hs3, trivial⟩
  obtain ⟨X4, s4, F4⟩ := F3.stA 0 rfl 4 [.bool (bel y), t, .bool (bel (x - z * y)), s3] rfl rfl (by simp [tc, c3])
  have B : Box X4 (H.next + 2) (H.next + 2) _ := F4.o.1
  have A1 : Box X1 H.next H.next _ := F1.o.2.2.1
  have A2 : Box X2 H.next H.next _ := F2.o.2.2.1
  have A3 : Box X3 H.next H.next _ := F3.o.2.2.1
  have P21 : rsem (.ld 2 true) [.ptr (some (H.next, 2))] X1 = some (.agg [.bool (bel y), t]) := A1.part 2 2 (by simp)
  have P01 : rsem (.ld 2 true) [.ptr (some (H.next, 0))] X1 = some (.agg [.bool (bel x), s]) := A1.part 0 2 (by simp)
  have P22 : rsem (.ld 2 true) [.ptr (some (H.next, 2))] X2 = some (.agg [.bool (bel y), t]) := A2.part 2 2 (by simp)
  have P02 : rsem (.ld 2 true) [.ptr (some (H.next, 0))] X2 = some (.agg [.bool (bel x), s]) := A2.part 0 2 (by simp)
  have P23 : rsem (.ld 2 true) [.ptr (some (H.next, 2))] X3 = some (.agg [.bool (bel y), t]) := A3.part 2 2 (by simp)
  simp [psem_bld', fill, splice, tc, c3, s4]
  simp [floatOk, wanted, AV.same_refl, P2, P0, P21, P01, P22, P02, P23, ares_cellA (hb := B)]
  exact ⟨F4.end.1, _, _, rfl, F4.end.2.2.2.2.2.1, F4.end.2.1⟩
/-- A pair's row. -/
abbrev pr4 (x : Int) (s : AV) (y : Int) (t : AV) : List AV := [.bool (bel x), s, .bool (bel y), t]
theorem PV.box {D : Nat → Prop} {H : AHeap} {v : AV} {x y : Int} (h : PV D H v x y) : ∃ s t, v = .agg (pr4 x s y t) ∧ s.cell = true ∧ t.cell = true ∧ Rd D encI 1 H s (dig x.natAbs) ∧ Rd D encI 1 H t (dig y.natAbs) := by
  obtain ⟨s, t, e, h1, h2⟩ := h; exact ⟨s, t, e, h1.sl.form.1, h2.sl.form.1, h1, h2⟩
theorem c486 (Dt : D486 T) {D : Nat → Prop} {H : AHeap} (hw : WF H) (hd : ∀ g, D g → g < H.next) {u v : AV} {a b : Int} (hu : IV D H u a) (hv : IV D H v b) (ha : (dig a.natAbs).length ≤ 400) (hb : (dig b.natAbs).length ≤ 400) :
    Calls T 486 [u, v] H fun r H' => Fr H H' ∧ ∃ g x y, r = .tup [g, x, y] ∧ IV D H' g (gcdS a b).1 ∧ IV D H' x (gcdS a b).2.1 ∧ IV D H' y (gcdS a b).2.2 := by
  obtain ⟨s, rfl, sc, hs⟩ := hu.box
  obtain ⟨t, rfl, tc, ht⟩ := hv.box
  refine Calls.fn Dt.pr Dt.fn ?_
  have one : (dig (1 : Int).natAbs).length ≤ 1 := dig_small (by decide)
  have F := ((((((Fx.start hw hd (ps := [.rd encI 1 s (dig a.natAbs), .rd encI 1 t (dig b.natAbs)]) ⟨hs, ht, trivial⟩).bx H.next [.bool (bel a), s]).bx (H.next + 1) [.bool (bel b), t]).bx (H.next + 2) [.bool false, .slc none 0 0 none]).bx (H.next + 3) [.bool false, .slc none 0 0 none]).bx (H.next + 4) [.bool false, .slc none 0 0 none])
  simp [ir486, new_next, Nat.add_assoc, sc, tc]
  obtain ⟨X, hX⟩ : ∃ X, ((((H.new [.bool (bel a), s]).new [.bool (bel b), t]).new [.bool false, .slc none 0 0 none]).new [.bool false, .slc none 0 0 none]).new [.bool false, .slc none 0 0 none] = X := ⟨_, rfl⟩
  rw [hX] at F ⊢
  have B2 : Box X H.next H.next _ := F.o.2.2.2.2.1
  have B3 : Box X (H.next + 1) (H.next + 1) _ := F.o.2.2.2.1
  refine W_floats ?_
  simp only [WT_cons, WT_nil]
  simp [-Wk_seq, B2.all 2 rfl, B3.all 2 rfl, psem_bld', fill, splice, sc, tc]
  refine WC.of (c487 Dt.d487 F.wf F.dn (n := 1) (by decide)) ?_
  rintro r1 X1 ⟨fr1, h1⟩
  obtain ⟨s1, rfl, c1, hs1⟩ := h1.box
  have F1 := F.callR fr1 (qs := [.rd encI 1 s1 _]) ⟨hs1, trivial⟩
  simp [-Wk_seq]
  refine WC.of (c487 Dt.d487 F1.wf F1.dn (n := 0) (by decide)) ?_
  rintro r2 X2 ⟨fr2, h2⟩
  obtain ⟨s2, rfl, c2, hs2⟩ := h2.box
  have F2 := F1.callR fr2 (qs := [.rd encI 1 s2 _]) ⟨hs2, trivial⟩
  simp [-Wk_seq, psem_bld', fill, splice, c1, c2]
  refine WC.of (c487 Dt.d487 F2.wf F2.dn (n := 0) (by decide)) ?_
  rintro r3 X3 ⟨fr3, h3⟩
  obtain ⟨s3, rfl, c3, hs3⟩ := h3.box
  have F3 := F2.callR fr3 (qs := [.rd encI 1 s3 _]) ⟨hs3, trivial⟩
  simp [-Wk_seq]
  refine WC.of (c487 Dt.d487 F3.wf F3.dn (n := 1) (by decide)) ?_
  rintro r4 X4 ⟨fr4, h4⟩
  obtain ⟨s4, rfl, c4, hs4⟩ := h4.box
  have F4 := F3.callR fr4 (qs := [.rd encI 1 s4 _]) ⟨hs4, trivial⟩
  have F5 := F4.bx X4.next [.bool false, .slc none 0 0 none, .bool false, .slc none 0 0 none]
  have F6 := F5.bx (X4.next + 1) [.bool false, .slc none 0 0 none, .bool false, .slc none 0 0 none]
  have F7 := F6.bx (X4.next + 2) [.bool false, .slc none 0 0 none, .bool false, .slc none 0 0 none]
  obtain ⟨Y1, t1, G1⟩ := F7.stA 2 rfl 4 (pr4 a s b t) rfl rfl (by simp [sc, tc])
  obtain ⟨Y2, t2, G2⟩ := G1.stA 1 rfl 4 (pr4 1 s1 0 s2) rfl rfl (by simp [c1, c2])
  obtain ⟨Y3, t3, G3⟩ := G2.stA 0 rfl 4 (pr4 0 s3 1 s4) rfl rfl (by simp [c3, c4])
  have b21 : Box X1 H.next H.next _ := F1.o.2.2.2.2.1
  have b22 : Box X2 H.next H.next _ := F2.o.2.2.2.2.1
  have b23 : Box X3 H.next H.next _ := F3.o.2.2.2.2.1
  have b24 : Box X4 H.next H.next _ := F4.o.2.2.2.2.1
  have b25 : Box _ H.next H.next _ := F5.o.2.2.2.2.2.1
  have b26 : Box _ H.next H.next _ := F6.o.2.2.2.2.2.2.1
  have b27 : Box _ H.next H.next _ := F7.o.2.2.2.2.2.2.2.1
  have b31 : Box X1 (H.next + 1) (H.next + 1) _ := F1.o.2.2.2.1
  have b32 : Box X2 (H.next + 1) (H.next + 1) _ := F2.o.2.2.2.1
  have b33 : Box X3 (H.next + 1) (H.next + 1) _ := F3.o.2.2.2.1
  have b34 : Box X4 (H.next + 1) (H.next + 1) _ := F4.o.2.2.2.1
  have b35 : Box _ (H.next + 1) (H.next + 1) _ := F5.o.2.2.2.2.1
  have b36 : Box _ (H.next + 1) (H.next + 1) _ := F6.o.2.2.2.2.2.1
  have b37 : Box _ (H.next + 1) (H.next + 1) _ := F7.o.2.2.2.2.2.2.1
  simp [-Wk_seq, psem_bld', fill, splice, c3, c4, new_next, Nat.add_assoc, t1, t2, t3]
  simp [-Wk_seq, floatOk, wanted, AV.same_refl, B2.all 2 rfl, B3.all 2 rfl, b21.all 2 rfl, b22.all 2 rfl, b23.all 2 rfl, b24.all 2 rfl, b25.all 2 rfl, b26.all 2 rfl, b27.all 2 rfl, b31.all 2 rfl, b32.all 2 rfl, b33.all 2 rfl, b34.all 2 rfl, b35.all 2 rfl, b36.all 2 rfl, b37.all 2 rfl]
  rw [Wk_seq]
  obtain ⟨n7, hn7⟩ : ∃ n7, X4.next = n7 := ⟨_, rfl⟩
  rw [hn7] at G3 ⊢
  have hge : H.next + 5 ≤ n7 := by
    have := F.fr.next
    have h5 := F4.dn (H.next + 4) (.inr (by simp))
    omega
  refine W_cut (fun e Y => e 4 = .ptr (some (H.next + 2, 0)) ∧ e 5 = .ptr (some (H.next + 3, 0)) ∧ e 6 = .ptr (some (H.next + 4, 0)) ∧ e 7 = .ptr (some (n7, 0)) ∧ e 8 = .ptr (some (n7 + 1, 0)) ∧ e 9 = .ptr (some (n7 + 2, 0)) ∧
      ∃ r0 x0 y0 r1 x1 y1 : Int, ∃ sr sx sy tr tx ty, (r0, x0, y0) = eg (b.natAbs + 1) a b 1 0 0 1 ∧ sr.cell = true ∧ sx.cell = true ∧ sy.cell = true ∧
      Fx H D [.box (n7 + 2) (pr4 y0 sy y1 ty), .box (n7 + 1) (pr4 x0 sx x1 tx), .box n7 (pr4 r0 sr r1 tr), .box (H.next + 4) [.bool false, .slc none 0 0 none], .box (H.next + 3) [.bool false, .slc none 0 0 none], .box (H.next + 2) [.bool false, .slc none 0 0 none]]
        [.rd encI 1 sr (dig r0.natAbs), .rd encI 1 sx (dig x0.natAbs), .rd encI 1 sy (dig y0.natAbs)] Y) ?_ ?_
  · simp only [W_block]
    refine W_loop (fun (n : Nat) e Y => e 4 = .ptr (some (H.next + 2, 0)) ∧ e 5 = .ptr (some (H.next + 3, 0)) ∧ e 6 = .ptr (some (H.next + 4, 0)) ∧ e 7 = .ptr (some (n7, 0)) ∧ e 8 = .ptr (some (n7 + 1, 0)) ∧ e 9 = .ptr (some (n7 + 2, 0)) ∧
      ∃ r0 x0 y0 r1 x1 y1 : Int, ∃ sr sx sy tr tx ty, eg n r0 r1 x0 x1 y0 y1 = eg (b.natAbs + 1) a b 1 0 0 1 ∧ r1.natAbs < n ∧ EgI a b r0 r1 x0 x1 y0 y1 ∧
      Fx H D [.box (n7 + 2) (pr4 y0 sy y1 ty), .box (n7 + 1) (pr4 x0 sx x1 tx), .box n7 (pr4 r0 sr r1 tr), .box (H.next + 4) [.bool false, .slc none 0 0 none], .box (H.next + 3) [.bool false, .slc none 0 0 none], .box (H.next + 2) [.bool false, .slc none 0 0 none]]
        [.rd encI 1 sr (dig r0.natAbs), .rd encI 1 sx (dig x0.natAbs), .rd encI 1 sy (dig y0.natAbs), .rd encI 1 tr (dig r1.natAbs), .rd encI 1 tx (dig x1.natAbs), .rd encI 1 ty (dig y1.natAbs)] Y) id (b.natAbs + 1) ?_ ?_
    · refine ⟨by simp, by simp, by simp, by simp [hn7], by simp [hn7], by simp [hn7], a, 1, 0, b, 0, 1, s, s1, s3, t, s2, s4, rfl, by omega, EgI.init a b, ?_⟩
      exact (G3.pbs (qs := [.rd encI 1 s _, .rd encI 1 s1 _, .rd encI 1 s3 _, .rd encI 1 t _, .rd encI 1 s2 _, .rd encI 1 s4 _]) ⟨G3.p.2.2.2.2.1, G3.p.2.2.2.1, G3.p.2.1, G3.p.2.2.2.2.2.1, G3.p.2.2.1, G3.p.1, trivial⟩).take 6
    · rintro n e Y ⟨h4, h5, h6, h7, h8, h9, r0, x0, y0, r1, x1, y1, sr, sx, sy, tr, tx, ty, heg, hlt, hI, G⟩
      have K7 : Box Y n7 n7 _ := G.o.2.2.1
      have ltr : psem .len [tr] = some (.int .i64 (dig r1.natAbs).length) := G.p.2.2.2.1.sl.len
      simp [h7, K7.at 3 rfl, ltr]
      by_cases hr1 : r1 = 0
      · subst hr1
        simp [dig_zero]
        obtain ⟨m, rfl⟩ : ∃ m, n = m + 1 := ⟨n - 1, by omega⟩
        have e0 : eg (m + 1) r0 0 x0 x1 y0 y1 = (r0, x0, y0) := by simp [eg]
        rw [e0] at heg
        exact ⟨h4, h5, h6, h7, h8, h9, r0, x0, y0, heg, 0, x1, y1, sr, G.p.1.sl.form.1, sx, G.p.2.1.sl.form.1, sy, G.p.2.2.1.sl.form.1, tr, tx, ty, G.pbs ⟨G.p.1, G.p.2.1, G.p.2.2.1, trivial⟩⟩
      · have hpos : 0 < (dig r1.natAbs).length := dig_pos_len.2 (by omega)
        have p70 : rsem (.ld 2 true) [.ptr (some (n7, 0))] Y = some (.agg [.bool (bel r0), sr]) := K7.part 0 2 (by simp)
        have p72 : rsem (.ld 2 true) [.ptr (some (n7, 2))] Y = some (.agg [.bool (bel r1), tr]) := K7.part 2 2 (by simp)
        obtain ⟨l1, l2, l3, l4, l5, l6⟩ := hI.len ha hb
        simp [hpos, h7, p70, p72]
        refine WC.of (c466 Dt.d466 G.wf G.dn (x := r0) (y := r1) ⟨sr, rfl, G.p.1⟩ ⟨tr, rfl, G.p.2.2.2.1⟩ hr1 (by omega) (by omega)) ?_
        rintro r Z ⟨frZ, uq, uw, rfl, hq, hw'⟩
        obtain ⟨sq, rfl, cq, hsq⟩ := hq.box
        obtain ⟨sw, rfl, cw, hsw⟩ := hw'.box
        have lq := qd_len (y := r1) l1
        have G1 := ((G.callR frZ (qs := [.rd encI 1 sq (dig (qd r0 r1).natAbs)]) ⟨hsq, trivial⟩).add (qs := [.rd encI 1 sw (dig (md r0 r1).natAbs)]) ⟨hsw, trivial⟩)
        have G2 := (G1.bx Z.next [.bool false, .slc none 0 0 none]).bx (Z.next + 1) [.bool false, .slc none 0 0 none]
        obtain ⟨Z3, u3, G3⟩ := G2.stA 1 rfl 2 [.bool (bel (qd r0 r1)), sq] rfl rfl (by simp [cq])
        obtain ⟨Z4, u4, G4⟩ := G3.stA 0 rfl 2 [.bool (bel (md r0 r1)), sw] rfl rfl (by simp [cw])
        simp [new_next, u3, u4]
        have G5 := (G4.drop).pbs (qs := [.rd encI 1 sr (dig r0.natAbs), .rd encI 1 sx (dig x0.natAbs), .rd encI 1 sy (dig y0.natAbs), .rd encI 1 tr (dig r1.natAbs), .rd encI 1 tx (dig x1.natAbs), .rd encI 1 ty (dig y1.natAbs), .rd encI 1 sq (dig (qd r0 r1).natAbs)]) ⟨G4.drop.p.2.2.1, G4.drop.p.2.2.2.1, G4.drop.p.2.2.2.2.1, G4.drop.p.2.2.2.2.2.1, G4.drop.p.2.2.2.2.2.2.1, G4.drop.p.2.2.2.2.2.2.2.1, G4.drop.p.2.1, trivial⟩
        obtain ⟨m10, hm10⟩ : ∃ m, Z.next = m := ⟨_, rfl⟩
        rw [hm10] at G5 ⊢
        have q10 : Box Z4 m10 m10 _ := G5.o.1
        have q9 : Box Z4 (n7 + 2) (n7 + 2) _ := G5.o.2.1
        have q8 : Box Z4 (n7 + 1) (n7 + 1) _ := G5.o.2.2.1
        have q7 : Box Z4 n7 n7 _ := G5.o.2.2.2.1
        refine W_floats ?_
        simp only [WT_cons, WT_nil]
        simp [h7, h8, h9, q10.all 2 rfl, q7.all 4 rfl]
        refine WC.of (c500 Dt.d500 G5.wf G5.dn (x := r0) (y := r1) (z := qd r0 r1) ⟨sr, tr, rfl, G5.p.1, G5.p.2.2.2.1⟩ ⟨sq, rfl, G5.p.2.2.2.2.2.2.1⟩ (by omega) (by omega) (by omega)) ?_
        rintro ra W1 ⟨fra, hra⟩
        obtain ⟨a1, a2, rfl, ca1, ca2, hra1, hra2⟩ := hra.box
        have G6 := G5.callR fra (qs := [.rd encI 1 a1 _, .rd encI 1 a2 _]) ⟨hra1, hra2, trivial⟩
        have w10 : Box W1 m10 m10 _ := G6.o.1
        have w8 : Box W1 (n7 + 1) (n7 + 1) _ := G6.o.2.2.1
        have w9 : Box W1 (n7 + 2) (n7 + 2) _ := G6.o.2.1
        simp [h7, h8, h9, w10.all 2 rfl, w8.all 4 rfl]
        refine WC.of (c500 Dt.d500 G6.wf G6.dn (x := x0) (y := x1) (z := qd r0 r1) ⟨sx, tx, rfl, G6.p.2.2.2.1, G6.p.2.2.2.2.2.2.1⟩ ⟨sq, rfl, G6.p.2.2.2.2.2.2.2.2.1⟩ (by omega) (by omega) (by omega)) ?_
        rintro rb W2 ⟨frb, hrb⟩
        obtain ⟨b1, b2, rfl, cb1, cb2, hrb1, hrb2⟩ := hrb.box
        have G7 := G6.callR frb (qs := [.rd encI 1 b1 _, .rd encI 1 b2 _]) ⟨hrb1, hrb2, trivial⟩
        have v10 : Box W2 m10 m10 _ := G7.o.1
        have v9 : Box W2 (n7 + 2) (n7 + 2) _ := G7.o.2.1
        simp [h7, h8, h9, v10.all 2 rfl, v9.all 4 rfl]
        refine WC.of (c500 Dt.d500 G7.wf G7.dn (x := y0) (y := y1) (z := qd r0 r1) ⟨sy, ty, rfl, G7.p.2.2.2.2.2.2.1, G7.p.2.2.2.2.2.2.2.2.2.1⟩ ⟨sq, rfl, G7.p.2.2.2.2.2.2.2.2.2.2.1⟩ (by omega) (by omega) (by omega)) ?_
        rintro rc W3 ⟨frc, hrc⟩
        obtain ⟨c1', c2', rfl, cc1, cc2, hrc1, hrc2⟩ := hrc.box
        have G8 := G7.callR frc (qs := [.rd encI 1 c1' _, .rd encI 1 c2' _]) ⟨hrc1, hrc2, trivial⟩
        obtain ⟨V1, x1', G9⟩ := G8.stA 3 rfl 4 (pr4 r1 a1 (r0 - qd r0 r1 * r1) a2) rfl rfl (by simp [ca1, ca2])
        obtain ⟨V2, x2', G10⟩ := G9.stA 2 rfl 4 (pr4 x1 b1 (x0 - qd r0 r1 * x1) b2) rfl rfl (by simp [cb1, cb2])
        obtain ⟨V3, x3', G11⟩ := G10.stA 1 rfl 4 (pr4 y1 c1' (y0 - qd r0 r1 * y1) c2') rfl rfl (by simp [cc1, cc2])
        simp [h7, h8, h9, x1', x2', x3']
        simp [floatOk, wanted, AV.same_refl, h7, h8, h9, q10.all 2 rfl, q9.all 4 rfl, q8.all 4 rfl, w10.all 2 rfl, w8.all 4 rfl, w9.all 4 rfl, v10.all 2 rfl, v9.all 4 rfl]
        obtain ⟨k, rfl⟩ : ∃ k, n = k + 1 := ⟨n - 1, by omega⟩
        have emd : md r0 r1 = r0 - qd r0 r1 * r1 := by unfold md; rw [Int.mul_comm]
        have est : eg (k + 1) r0 r1 x0 x1 y0 y1 = eg k r1 (md r0 r1) x1 (x0 - qd r0 r1 * x1) y1 (y0 - qd r0 r1 * y1) := by simp [eg, hr1]
        rw [est] at heg
        have hst := hI.step hr1
        have hml := natAbs_mod_lt r0 hr1
        rw [emd] at heg hst hml
        refine ⟨k, by omega, h4, h5, h6, r1, x1, y1, _, _, _, heg, by omega, hst, a1, b1, c1', a2, b2, c2', ?_⟩
        have G12 := G11.drop
        exact G12.pbs ⟨G12.p.2.2.2.2.1, G12.p.2.2.1, G12.p.1, G12.p.2.2.2.2.2.1, G12.p.2.2.2.1, G12.p.2.1, trivial⟩
  · rintro e Y ⟨h4, h5, h6, h7, h8, h9, r0, x0, y0, r1, x1, y1, sr, sx, sy, tr, tx, ty, heg, cr, cx, cy, G⟩
    have q9 : Box Y (n7 + 2) (n7 + 2) _ := G.o.1
    have q8 : Box Y (n7 + 1) (n7 + 1) _ := G.o.2.1
    have q7 : Box Y n7 n7 _ := G.o.2.2.1
    have p7 : rsem (.ld 2 true) [.ptr (some (n7, 0))] Y = some (.agg [.bool (bel r0), sr]) := q7.part 0 2 (by simp)
    have p8 : rsem (.ld 2 true) [.ptr (some (n7 + 1, 0))] Y = some (.agg [.bool (bel x0), sx]) := q8.part 0 2 (by simp)
    have p9 : rsem (.ld 2 true) [.ptr (some (n7 + 2, 0))] Y = some (.agg [.bool (bel y0), sy]) := q9.part 0 2 (by simp)
    have hg : gcdS a b = if bel r0 then (-r0, -x0, -y0) else (r0, x0, y0) := by
      unfold gcdS
      rw [← heg]
    simp [h7, q7.at 0 rfl]
    cases hbel : bel r0 with
    | false =>
      rw [hbel] at hg p7
      simp at hg
      obtain ⟨V1, u1, G1⟩ := G.stA 5 rfl 2 [.bool (bel r0), sr] rfl rfl (by simp [cr])
      obtain ⟨V2, u2, G2⟩ := G1.stA 4 rfl 2 [.bool (bel x0), sx] rfl rfl (by simp [cx])
      obtain ⟨V3, u3, G3⟩ := G2.stA 3 rfl 2 [.bool (bel y0), sy] rfl rfl (by simp [cy])
      rw [hbel] at u1 G1 G2 G3
      have k8 : Box V1 (n7 + 1) (n7 + 1) _ := G1.o.2.1
      have k9 : Box V1 (n7 + 2) (n7 + 2) _ := G1.o.1
      have m9 : Box V2 (n7 + 2) (n7 + 2) _ := G2.o.1
      have p81 : rsem (.ld 2 true) [.ptr (some (n7 + 1, 0))] V1 = some (.agg [.bool (bel x0), sx]) := k8.part 0 2 (by simp)
      have p91 : rsem (.ld 2 true) [.ptr (some (n7 + 2, 0))] V1 = some (.agg [.bool (bel y0), sy]) := k9.part 0 2 (by simp)
      have p92 : rsem (.ld 2 true) [.ptr (some (n7 + 2, 0))] V2 = some (.agg [.bool (bel y0), sy]) := m9.part 0 2 (by simp)
      have D4 : Box V3 (H.next + 2) (H.next + 2) _ := G3.o.2.2.2.2.2.1
      have D5 : Box V3 (H.next + 3) (H.next + 3) _ := G3.o.2.2.2.2.1
      have D6 : Box V3 (H.next + 4) (H.next + 4) _ := G3.o.2.2.2.1
      simp
      refine W_floats ?_
      simp only [WT_cons, WT_nil]
      simp [h4, h5, h6, h7, h8, h9, p7, p8, p9, u1, u2, u3]
      simp [floatOk, wanted, AV.same_refl, h4, h5, h6, h7, h8, h9, p7, p8, p9, p81, p91, p92, ares_cellA (hb := D4), ares_cellA (hb := D5), ares_cellA (hb := D6)]
      rw [hg]
      exact ⟨G3.end.1, _, _, _, ⟨rfl, rfl, rfl⟩, ⟨sr, by rw [hbel], G3.end.2.1⟩, ⟨sx, rfl, G3.end.2.2.1⟩, ⟨sy, rfl, G3.end.2.2.2.1⟩⟩
    | true =>
      rw [hbel] at hg p7
      simp at hg
      simp
      refine W_floats ?_
      simp only [WT_cons, WT_nil]
      simp [h7, p7]
      refine WC.of (c481 Dt.d481 G.wf G.dn (x := r0) ⟨sr, by rw [hbel], G.p.1⟩) ?_
      rintro ra W1 ⟨fra, hra⟩
      obtain ⟨a1, rfl, ca1, hra1⟩ := hra.box
      have G1 := G.callR fra (qs := [.rd encI 1 a1 _]) ⟨hra1, trivial⟩
      have k8 : Box W1 (n7 + 1) (n7 + 1) _ := G1.o.2.1
      have k9 : Box W1 (n7 + 2) (n7 + 2) _ := G1.o.1
      have p81 : rsem (.ld 2 true) [.ptr (some (n7 + 1, 0))] W1 = some (.agg [.bool (bel x0), sx]) := k8.part 0 2 (by simp)
      have p91 : rsem (.ld 2 true) [.ptr (some (n7 + 2, 0))] W1 = some (.agg [.bool (bel y0), sy]) := k9.part 0 2 (by simp)
      simp [h8, p81]
      refine WC.of (c481 Dt.d481 G1.wf G1.dn (x := x0) ⟨sx, rfl, G1.p.2.2.1⟩) ?_
      rintro rb W2 ⟨frb, hrb⟩
      obtain ⟨b1, rfl, cb1, hrb1⟩ := hrb.box
      have G2 := G1.callR frb (qs := [.rd encI 1 b1 _]) ⟨hrb1, trivial⟩
      have m9 : Box W2 (n7 + 2) (n7 + 2) _ := G2.o.1
      have p92 : rsem (.ld 2 true) [.ptr (some (n7 + 2, 0))] W2 = some (.agg [.bool (bel y0), sy]) := m9.part 0 2 (by simp)
      simp [h9, p92]
      refine WC.of (c481 Dt.d481 G2.wf G2.dn (x := y0) ⟨sy, rfl, G2.p.2.2.2.2.1⟩) ?_
      rintro rc W3 ⟨frc, hrc⟩
      obtain ⟨c1', rfl, cc1, hrc1⟩ := hrc.box
      have G3 := G2.callR frc (qs := [.rd encI 1 c1' _]) ⟨hrc1, trivial⟩
      obtain ⟨V1, u1, G4⟩ := G3.stA 5 rfl 2 [.bool (bel (-r0)), a1] rfl rfl (by simp [ca1])
      obtain ⟨V2, u2, G5⟩ := G4.stA 4 rfl 2 [.bool (bel (-x0)), b1] rfl rfl (by simp [cb1])
      obtain ⟨V3, u3, G6⟩ := G5.stA 3 rfl 2 [.bool (bel (-y0)), c1'] rfl rfl (by simp [cc1])
      have D4 : Box V3 (H.next + 2) (H.next + 2) _ := G6.o.2.2.2.2.2.1
      have D5 : Box V3 (H.next + 3) (H.next + 3) _ := G6.o.2.2.2.2.1
      have D6 : Box V3 (H.next + 4) (H.next + 4) _ := G6.o.2.2.2.1
      simp [h4, h5, h6, u1, u2, u3]
      simp [floatOk, wanted, AV.same_refl, h4, h5, h6, h7, h8, h9, p7, p8, p9, p81, p91, p92, ares_cellA (hb := D4), ares_cellA (hb := D5), ares_cellA (hb := D6)]
      rw [hg]
      exact ⟨G6.end.1, _, _, _, ⟨rfl, rfl, rfl⟩, ⟨a1, rfl, G6.end.2.2.2.1⟩, ⟨b1, rfl, G6.end.2.2.1⟩, ⟨c1', rfl, G6.end.2.1⟩⟩
end Go.Am

/- Contracts of package big: Pow, Factorial, Binomial, Prime. -/
set_option linter.unusedVariables false
set_option linter.unusedSimpArgs false
namespace Go.Am
variable {T : Tab}
/-- What Pow gives. -/
def powS (a : List UInt8) (n : Int) : Int × List UInt8 :=
  if errS [a] = 0 then (if n < 0 ∨ 2000 < n then (1, []) else
    match powN (rdS a).natAbs 400 n.toNat 1 with
    | none => (3, [])
    | some p => (0, showS (sgn (bel (rdS a) && decide (n.tmod 2 = 1)) p)))
  else (errS [a], [])
theorem powN_len {m : Nat} {most : Int} : ∀ {k a p : Nat}, powN m most k a = some p → (k = 0 ∧ p = a) ∨ ((dig p).length : Int) ≤ most
  | 0, a, p, h => by simp only [powN, Option.some.injEq] at h; exact .inl ⟨rfl, h.symm⟩
  | k + 1, a, p, h => by
    simp only [powN] at h
    split at h
    · cases h
    · rename_i hn
      rcases powN_len h with ⟨_, rfl⟩ | h
      · exact .inr (by omega)
      · exact .inr h
theorem c420 (Dt : D420 T) {H : AHeap} (hw : WF H) {a : List UInt8} {n : Int} (ha : a.length < 2 ^ 40) : Calls T 420 [.str a, .int .i64 n] H fun r H' => Fr H H' ∧ r = .tup [.str (powS a n).2, .int .i64 (powS a n).1] := by
  refine Calls.fn Dt.pr Dt.fn ?_
  have F := Fx.start hw (D := fun _ => False) (fun _ h => h.elim) (ps := []) trivial
  simp [ir420, (slS1 hw a).1]
  refine WC.of (nums1 Dt.d456 F ha) ?_
  rintro r X ⟨q, rfl, F1, h⟩
  unfold powS
  by_cases e : errS [a] = 0
  · obtain ⟨p, F2⟩ := h e
    have hq : Rd _ encP 2 X q [p] := F2.p.1
    have hp : IV _ X (encP p) (rdS a) := F2.p.2.1
    obtain ⟨pl, p1, pr⟩ := hp.len
    have i0 : psem (.ia 2) [q, .int .i64 0] = some (elt q 2 0) := hq.sl.ia (by omega) (by simp)
    have f1 : psem (.fa 1) [elt q 2 0] = some (eltk q 2 0 1) := hq.sl.fa (by omega) (by simp) 1
    have g1 : rsem (.ld 1 false) [eltk q 2 0 1] X = some p.2 := hq.sl.ldk (by omega) (by simp) 1 rfl
    have f0 : psem (.fa 0) [elt q 2 0] = some (eltk q 2 0 0) := hq.sl.fa (by omega) (by simp) 0
    by_cases hb : n < 0 ∨ 2000 < n
    · rw [if_pos e, if_pos hb]
      by_cases h1 : n < 0
      · simp [e, h1]
        exact F2.fr
      · have h2 : 2000 < n := hb.resolve_left h1
        simp [e, h1, h2]
        exact F2.fr
    · rw [if_pos e, if_neg hb]
      have h1 : ¬ n < 0 := fun h => hb (.inl h)
      have h2 : ¬ 2000 < n := fun h => hb (.inr h)
      simp [e, h1, h2, i0, f1, g1]
      have hn : (n.toNat : Int) = n := by omega
      have hc := c472 Dt.d472 F2.wf (u := p.2) (m := (rdS a).natAbs) (n := n.toNat) (most := 400) pr.sl (by have := rdS_len a; omega) (by omega) (by omega)
      rw [hn] at hc
      refine WC.of hc ?_
      rintro r Y ⟨frY, w, rfl, hw'⟩
      have F3 := F2.call frY
      have hq3 : Rd _ encP 2 Y q [p] := F3.p.1
      have g0 : rsem (.ld 1 false) [eltk q 2 0 0] Y = some (.bool (bel (rdS a))) := hq3.sl.ldk (by omega) (by simp) 0 (by show some p.1 = _; rw [p1])
      cases hz : powN (rdS a).natAbs 400 n.toNat 1 with
      | none =>
        simp [hz]
        exact F3.fr
      | some m =>
        have hm := hw' m hz
        have F4 := F2.callR frY (qs := [.rd encI 1 w (dig m)]) ⟨hm.rd F2.dn, trivial⟩
        have ml : (dig m).length ≤ 400 := by
          rcases powN_len hz with ⟨_, rfl⟩ | h
          · exact Nat.le_trans (dig_small (by decide)) (by decide)
          · omega
        have tail : ∀ (b : Bool) (e : Env), e 44 = .bool b → e 45 = w → True := fun _ _ _ _ => trivial
        cases hbl : bel (rdS a) with
        | true =>
          rw [hbl] at g0
          simp [hz, i0, f0, g0]
          refine WC.of (c473 Dt.d473 F4.wf F4.dn F4.p.1) ?_
          rintro r5 Z ⟨frZ, h5⟩
          have F5 := F4.callR frZ (qs := [.iv r5 _]) ⟨h5, trivial⟩
          simp
          refine WC.of (c474 Dt.d474 F5.wf F5.dn F5.p.1 (by rw [sgn_abs]; omega)) ?_
          rintro r6 Z6 ⟨fr6, rfl⟩
          simp
          exact (F5.call fr6).fr
        | false =>
          rw [hbl] at g0
          simp [hz, i0, f0, g0]
          refine WC.of (c473 Dt.d473 F4.wf F4.dn F4.p.1) ?_
          rintro r5 Z ⟨frZ, h5⟩
          have F5 := F4.callR frZ (qs := [.iv r5 _]) ⟨h5, trivial⟩
          simp
          refine WC.of (c474 Dt.d474 F5.wf F5.dn F5.p.1 (by rw [sgn_abs]; omega)) ?_
          rintro r6 Z6 ⟨fr6, rfl⟩
          simp
          exact (F5.call fr6).fr
  · simp [e]
    exact F1.fr
end Go.Am

/- Contracts of package big: Gcd, Inverse, PowMod. -/
set_option linter.unusedVariables false
set_option linter.unusedSimpArgs false
namespace Go.Am
variable {T : Tab}
/-- Three results' texts. -/
def outS3 (x y z : Int) : Int × List UInt8 × List UInt8 × List UInt8 := if bigZ x || bigZ y || bigZ z then (3, [], [], []) else (0, showS x, showS y, showS z)
theorem res3 {H0 H : AHeap} {D : Nat → Prop} {os : List Ob} {ps : List Pb} (Dt : D467 T) (F : Fx H0 D os ps H) {u v w : AV} {x y z : Int} (hu : IV (fams D os) H u x) (hv : IV (fams D os) H v y) (hw : IV (fams D os) H w z) (hl : (dig x.natAbs).length < 2 ^ 40) (hl2 : (dig y.natAbs).length < 2 ^ 40) (hl3 : (dig z.natAbs).length < 2 ^ 40) :
    ∃ cs, wsem0 (.bsl 2 3 [.bool false, .slc none 0 0 none, .bool false, .slc none 0 0 none, .bool false, .slc none 0 0 none] [(0, 2), (2, 2), (4, 2)]) [u, v, w] H = some (.slc (some (H.next, 0)) 2 3 (some 3), H.new cs) ∧
    Calls T 467 [.slc (some (H.next, 0)) 2 3 (some 3)] (H.new cs) fun r X => ∃ q, r = .tup [q, .int .i64 (outS3 x y z).1] ∧ Fx H0 D os (.rd encS 1 q [(outS3 x y z).2.1, (outS3 x y z).2.2.1, (outS3 x y z).2.2.2] :: ps) X := by
  obtain ⟨r, rfl, rc, hr⟩ := hu.box
  obtain ⟨s, rfl, sc, hs⟩ := hv.box
  obtain ⟨t, rfl, tc, ht⟩ := hw.box
  refine ⟨[.bool (bel x), r, .bool (bel y), s, .bool (bel z), t], by simp [wsem0, wsem, fill, splice, rc, sc, tc], ?_⟩
  have fn := F.wf.fr_new (cs := [.bool (bel x), r, .bool (bel y), s, .bool (bel z), t])
  have m : Made encP 2 H.next (H.new [.bool (bel x), r, .bool (bel y), s, .bool (bel z), t]) (.slc (some (H.next, 0)) 2 3 (some 3)) [(AV.bool (bel x), r), (AV.bool (bel y), s), (AV.bool (bel z), t)] := ⟨some H.next, F.wf.own_new (enc := encP) (l := [(AV.bool (bel x), r), (AV.bool (bel y), s), (AV.bool (bel z), t)]) (cs := [.bool (bel x), r, .bool (bel y), s, .bool (bel z), t]) (cap := some 3) (sz := 2) (by simp) (by simp) (by simp) (by simp), by simp⟩
  have F1 := F.callR fn (qs := [.rd encP 2 _ _]) ⟨m.rd F.dn, trivial⟩
  have F2 := (F.add (qs := [.iv (.agg [.bool (bel x), r]) x, .iv (.agg [.bool (bel y), s]) y, .iv (.agg [.bool (bel z), t]) z]) ⟨⟨r, rfl, hr⟩, ⟨s, rfl, hs⟩, ⟨t, rfl, ht⟩, trivial⟩).call fn
  refine (c467 Dt F1.wf F1.dn F1.p.1 (zs := [x, y, z]) ⟨F2.p.1, F2.p.2.1, F2.p.2.2.1, trivial⟩ (by simp) (by simp; exact ⟨hl, hl2, hl3⟩)).imp ?_
  rintro r X ⟨fr, q, rfl, h⟩
  have e : (resS [x, y, z]).1 = (outS3 x y z).1 ∧ (resS [x, y, z]).2 = [(outS3 x y z).2.1, (outS3 x y z).2.2.1, (outS3 x y z).2.2.2] := by
    unfold resS outS3
    cases h : bigZ x <;> cases h' : bigZ y <;> cases h'' : bigZ z <;> simp [h, h', h'']
  rw [e.1]
  rw [e.2] at h
  exact ⟨q, rfl, (F.call (fn.trans fr)).add (qs := [.rd encS 1 q _]) ⟨h, trivial⟩⟩
/-- The bounds of what gcd gives. -/
theorem eg_len {a b : Int} {k : Nat} (ha : (dig a.natAbs).length ≤ k) (hb : (dig b.natAbs).length ≤ k) : ∀ (n : Nat) {r0 r1 x0 x1 y0 y1 : Int}, EgI a b r0 r1 x0 x1 y0 y1 →
    (dig (eg n r0 r1 x0 x1 y0 y1).1.natAbs).length ≤ k ∧ (dig (eg n r0 r1 x0 x1 y0 y1).2.1.natAbs).length ≤ k + 1 ∧ (dig (eg n r0 r1 x0 x1 y0 y1).2.2.natAbs).length ≤ k + 1
  | 0, r0, r1, x0, x1, y0, y1, h => by
    obtain ⟨l1, l2, l3, l4, l5, l6⟩ := h.len ha hb
    exact ⟨l1, l3, l5⟩
  | n + 1, r0, r1, x0, x1, y0, y1, h => by
    simp only [eg]
    split
    · obtain ⟨l1, l2, l3, l4, l5, l6⟩ := h.len ha hb
      exact ⟨l1, l3, l5⟩
    · rename_i h1; exact eg_len ha hb n (h.step h1)
theorem gcdS_len {a b : Int} {k : Nat} (ha : (dig a.natAbs).length ≤ k) (hb : (dig b.natAbs).length ≤ k) : (dig (gcdS a b).1.natAbs).length ≤ k ∧ (dig (gcdS a b).2.1.natAbs).length ≤ k + 1 ∧ (dig (gcdS a b).2.2.natAbs).length ≤ k + 1 := by
  have := eg_len ha hb (b.natAbs + 1) (EgI.init a b)
  unfold gcdS
  simp only
  split
  · simpa [Int.natAbs_neg] using this
  · exact this
/-- What Gcd gives. -/
def gcdT (a b : List UInt8) : Int × List UInt8 × List UInt8 × List UInt8 :=
  if errS [a, b] = 0 then outS3 (gcdS (rdS a) (rdS b)).1 (gcdS (rdS a) (rdS b)).2.1 (gcdS (rdS a) (rdS b)).2.2 else (errS [a, b], [], [], [])
theorem c436 (Dt : D436 T) {H : AHeap} (hw : WF H) {a b : List UInt8} (ha : a.length < 2 ^ 40) (hb : b.length < 2 ^ 40) :
    Calls T 436 [.str a, .str b] H fun r H' => Fr H H' ∧ r = .tup [.str (gcdT a b).2.1, .str (gcdT a b).2.2.1, .str (gcdT a b).2.2.2, .int .i64 (gcdT a b).1] := by
  refine Calls.fn Dt.pr Dt.fn ?_
  have F := Fx.start hw (D := fun _ => False) (fun _ h => h.elim) (ps := []) trivial
  simp [ir436, (slS2 hw a b).1]
  refine WC.of (nums2 Dt.d456 F ha hb) ?_
  rintro r X ⟨q, rfl, F1, h⟩
  unfold gcdT
  by_cases e : errS [a, b] = 0
  · obtain ⟨p, p', F2⟩ := h e
    have hq : Rd _ encP 2 X q [p, p'] := F2.p.1
    have i0 : psem (.ia 2) [q, .int .i64 0] = some (elt q 2 0) := hq.sl.ia (by omega) (by simp)
    have i1 : psem (.ia 2) [q, .int .i64 1] = some (elt q 2 1) := hq.sl.ia (by omega) (by simp)
    have l0 : rsem (.ld 2 true) [elt q 2 0] X = some (.agg [p.1, p.2]) := hq.sl.ldA (i := 0) (by omega) (by simp) rfl
    have l1 : rsem (.ld 2 true) [elt q 2 1] X = some (.agg [p'.1, p'.2]) := hq.sl.ldA (i := 1) (by omega) (by simp) rfl
    obtain ⟨g1, g2, g3⟩ := gcdS_len (rdS_len a) (rdS_len b)
    simp [e, i0, i1, l0, l1]
    refine WC.of (c486 Dt.d486 F2.wf F2.dn F2.p.2.1 F2.p.2.2.1 (rdS_len a) (rdS_len b)) ?_
    rintro r Y ⟨frY, u, v, w, rfl, hu, hv, hw'⟩
    have F3 := F2.call frY
    obtain ⟨cs, s1, hc⟩ := res3 Dt.d467 F3 hu hv hw' (by omega) (by omega) (by omega)
    simp [s1]
    refine WC.of hc ?_
    rintro r Z ⟨q2, rfl, F4⟩
    have hq2 : Rd _ encS 1 Z q2 _ := F4.p.1
    have j0 : psem (.ia 1) [q2, .int .i64 0] = some (elt q2 1 0) := hq2.sl.ia (by omega) (by simp)
    have j1 : psem (.ia 1) [q2, .int .i64 1] = some (elt q2 1 1) := hq2.sl.ia (by omega) (by simp)
    have j2 : psem (.ia 1) [q2, .int .i64 2] = some (elt q2 1 2) := hq2.sl.ia (by omega) (by simp)
    have m0 := hq2.sl.ld (i := 0) (by omega) (by simp)
    have m1 := hq2.sl.ld (i := 1) (by omega) (by simp)
    have m2 := hq2.sl.ld (i := 2) (by omega) (by simp)
    simp [j0, j1, j2, m0, m1, m2]
    exact ⟨F4.fr, rfl, rfl, rfl⟩
  · simp [e]
    exact F1.fr
theorem cmpZ_lt {x y : Int} : cmpZ x y < 0 ↔ x < y := by
  unfold cmpZ
  by_cases h1 : x < y <;> by_cases h2 : y < x <;> simp [h1, h2] <;> omega
end Go.Am

/- Roots, digit by digit: the plain laws. -/
set_option linter.unusedVariables false
set_option linter.unusedSimpArgs false
namespace Go.Am
theorem powN_some {m : Nat} {most : Int} (h0 : 0 ≤ most) : ∀ {k a : Nat}, ((dig (a * m ^ k)).length : Int) ≤ most → powN m most k a = some (a * m ^ k)
  | 0, a, h => by simp [powN]
  | k + 1, a, h => by
    have e : a * m ^ (k + 1) = a * m * m ^ k := by rw [Nat.pow_succ, Nat.mul_assoc, Nat.mul_comm m]
    rw [e] at h ⊢
    simp only [powN]
    have hl : ((dig (a * m)).length : Int) ≤ most := by
      by_cases hm : m = 0
      · subst hm; rw [Nat.mul_zero, dig_zero]; simpa using h0
      · have : 1 ≤ m ^ k := Nat.pow_pos (by omega)
        have h2 : a * m ≤ a * m * m ^ k := Nat.le_mul_of_pos_right _ this
        have := dig_len_mono h2
        omega
    rw [if_neg (by omega)]
    exact powN_some h0 h
/-- One digit is written. -/
theorem fd_put {L p g c d : Nat} (hp : p < L) (hc : c < 10) (hd : d < 10) : (fd L (g * 10 ^ (p + 1) + c * 10 ^ p)).set (L - 1 - p) (d : Int) = fd L (g * 10 ^ (p + 1) + d * 10 ^ p) := by
  have hpp : 0 < 10 ^ p := Nat.pow_pos (by decide)
  have form : ∀ c, g * 10 ^ (p + 1) + c * 10 ^ p = (g * 10 + c) * 10 ^ p := by
    intro c
    rw [Nat.add_mul, Nat.pow_succ, Nat.mul_assoc, Nat.mul_comm 10]
  rw [form, form]
  apply List.ext_getElem
  · simp [fd]
  · intro i h1 h2
    have hi : i < L := by simpa [fd] using h2
    rw [List.getElem_set]
    simp only [fd, List.getElem_map, List.getElem_range]
    split
    · rename_i e
      have : L - 1 - i = p := by omega
      rw [this, Nat.mul_div_cancel _ hpp]
      omega
    · rename_i e
      obtain ⟨q, hq⟩ : ∃ q, L - 1 - i = q := ⟨_, rfl⟩
      have hne : q ≠ p := by omega
      rw [hq]
      congr 1
      rcases Nat.lt_or_ge p q with h | h
      · have e1 : 10 ^ q = 10 ^ p * (10 * 10 ^ (q - p - 1)) := by
          rw [← Nat.pow_succ', ← Nat.pow_add]; congr 1; omega
        rw [e1, ← Nat.div_div_eq_div_mul, ← Nat.div_div_eq_div_mul, ← Nat.div_div_eq_div_mul, ← Nat.div_div_eq_div_mul, Nat.mul_div_cancel _ hpp, Nat.mul_div_cancel _ hpp]
        rw [show (g * 10 + c) / 10 = g by omega, show (g * 10 + d) / 10 = g by omega]
      · have hlt : q < p := by omega
        have e1 : 10 ^ p = 10 ^ q * (10 * 10 ^ (p - q - 1)) := by
          rw [← Nat.pow_succ', ← Nat.pow_add]; congr 1; omega
        have hqq : 0 < 10 ^ q := Nat.pow_pos (by decide)
        have z : ∀ c, (g * 10 + c) * 10 ^ p / 10 ^ q % 10 = 0 := by
          intro c
          rw [e1, Nat.mul_left_comm, Nat.mul_div_cancel_left _ hqq, Nat.mul_left_comm, Nat.mul_mod_right]
        rw [z, z]
end Go.Am

/- Contracts of package big: PowMod. -/
set_option linter.unusedVariables false
set_option linter.unusedSimpArgs false
namespace Go.Am
variable {T : Tab}
end Go.Am

/- Contracts of package big: Root. -/
set_option linter.unusedVariables false
set_option linter.unusedSimpArgs false
namespace Go.Am
variable {T : Tab}
end Go.Am
