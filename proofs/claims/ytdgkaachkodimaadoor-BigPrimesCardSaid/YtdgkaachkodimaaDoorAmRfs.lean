/- Contracts of the reference's numbers: trimming, reading, comparing. -/
import Derived.Test.YtdgkaachkodimaaDoorAmBigsO
import Derived.Test.YtdgkaachkodimaaDoorAmBigsH
set_option linter.unusedVariables false
set_option linter.unusedSimpArgs false
namespace Go.Am
variable {T : Tab}
/-- A number of the reference: its digits, the lowest one first, and its sign. -/
def NV (D : Nat → Prop) (H : AHeap) (v : AV) (z : Int) : Prop := ∃ s, v = .agg [s, .bool (bel z)] ∧ Rd D encI 1 H s (rdig z.natAbs)
abbrev Pb.nv (v : AV) (z : Int) : Pb := ⟨fun D H => NV D H v z, fun _ _ _ _ hw h k hd => by obtain ⟨s, e, h⟩ := h; exact ⟨s, e, h.go hw k hd⟩⟩
theorem NV.to {D : Nat → Prop} {H : AHeap} {v : AV} {z z' : Int} (h : NV D H v z) (e : z = z') : NV D H v z' := e ▸ h
theorem NV.box {D : Nat → Prop} {H : AHeap} {v : AV} {z : Int} (h : NV D H v z) : ∃ s, v = .agg [s, .bool (bel z)] ∧ s.cell = true ∧ Rd D encI 1 H s (rdig z.natAbs) := by
  obtain ⟨s, e, h⟩ := h; exact ⟨s, e, h.sl.form.1, h⟩
def rtrim (l : List Int) : List Int := (trimZ l.reverse).reverse
theorem rtrim_nil : rtrim [] = [] := rfl
theorem rtrim_snoc (l : List Int) (d : Int) : rtrim (l ++ [d]) = if d = 0 then rtrim l else l ++ [d] := by
  unfold rtrim
  rw [List.reverse_append, List.reverse_singleton, List.singleton_append]
  simp only [trimZ]
  split <;> simp
/-- The lowest digits, the lowest one first. -/
def rfd (L n : Nat) : List Int := (fd L n).reverse
theorem rtrim_rfd {L n : Nat} (h : n < 10 ^ L) : rtrim (rfd L n) = rdig n := by
  unfold rtrim rfd
  rw [List.reverse_reverse, trimZ_fd L n h]
  simp [dig]
theorem rdig_len (n : Nat) : (rdig n).length = (dig n).length := (dig_len n).symm
theorem nth_rdig (n i : Nat) : nth (rdig n) (i : Int) = ((n / 10 ^ i % 10 : Nat) : Int) := by
  rw [← rdig_get]; rfl
theorem rdig_pos_len {n : Nat} : 0 < (rdig n).length ↔ n ≠ 0 := by rw [rdig_len]; exact dig_pos_len
/-- A part of a slice of a family that may not be written. -/
theorem Rd.cut0 {α : Type} {enc : α → AV} {sz : Nat} {D : Nat → Prop} {H : AHeap} {v : AV} {l : List α} (h : Rd D enc sz H v l) (j : Nat) (hj : j ≤ l.length) :
    ∃ v', (∀ k : IntKind, psem (.sl sz false true false) [v, .int k j] = some v') ∧ Rd D enc sz H v' (l.take j) := by
  obtain ⟨v', q1, q2, q3, q4⟩ := h.cut 0 j (Nat.zero_le _) hj
  exact ⟨v', fun k => q3 k rfl, by simpa using q4⟩
theorem c453 (Dt : D453 T) {D : Nat → Prop} {H : AHeap} (hw : WF H) (hd : ∀ g, D g → g < H.next) {b : Bool} {s : AV} {l : List Int} (hs : Rd D encI 1 H s l) (hl : l.length < 2 ^ 40) :
    Calls T 453 [.agg [s, .bool b]] H fun r H' => Fr H H' ∧ ∃ s', r = .agg [s', .bool (b && decide (0 < (rtrim l).length))] ∧ Rd D encI 1 H' s' (rtrim l) := by
  refine Calls.fn Dt.pr Dt.fn ?_
  have F := ((Fx.start hw hd (ps := [.rd encI 1 s l]) ⟨hs, trivial⟩).bx H.next [s, .bool b]).bx (H.next + 1) [.slc none 0 0 none, .bool false]
  simp [-Wk_seq, ir453, new_next, Nat.add_assoc, hs.sl.form.1]
  rw [Wk_seq]
  refine W_cut (fun e X => e 1 = .ptr (some (H.next, 0)) ∧ e 2 = .ptr (some (H.next + 1, 0)) ∧ ∃ s', Fx H D [.box (H.next + 1) [.slc none 0 0 none, .bool false], .box H.next [s', .bool b]] [.rd encI 1 s' (rtrim l)] X) ?_ ?_
  · simp only [W_block]
    refine W_loop (fun (w : Nat) e X => e 1 = .ptr (some (H.next, 0)) ∧ e 2 = .ptr (some (H.next + 1, 0)) ∧ ∃ s' l', l'.length = w ∧ rtrim l' = rtrim l ∧ l'.length ≤ l.length ∧ Fx H D [.box (H.next + 1) [.slc none 0 0 none, .bool false], .box H.next [s', .bool b]] [.rd encI 1 s' l'] X) id l.length ?_ ?_
    · exact ⟨rfl, rfl, s, l, rfl, rfl, Nat.le_refl _, F⟩
    · rintro w e X ⟨h1, h2, s', l', hw', ht, hle, G⟩
      have B : Box X H.next H.next _ := G.o.2.1
      have hs' : Rd _ encI 1 X s' l' := G.p.1
      have lens := hs'.sl.len
      rcases List.eq_nil_or_concat l' with rfl | ⟨m, d, rfl⟩
      · rw [rtrim_nil] at ht
        rw [← ht]
        simp [h1, h2, B.at 0 rfl, lens]
        exact ⟨s', G⟩
      · rw [List.concat_eq_append] at *
        have hn : nth (m ++ [d]) (m.length : Int) = d := by simp [nth]
        have hlen : (m ++ [d]).length = m.length + 1 := by simp
        rw [hlen] at lens hle hw'
        have w1 : IntKind.i64.wrap (((m.length + 1 : Nat) : Int) - 1) = (m.length : Int) := by rw [wrap_small (by omega) (by omega)]; omega
        have hp : (0 : Int) < ((m.length + 1 : Nat) : Int) := by omega
        have ia : psem (.ia 1) [s', .int .i64 (m.length : Int)] = some (elt s' 1 (m.length : Int)) := hs'.sl.ia (by omega) (by simp; omega)
        have ld : rsem (.ld 1 false) [elt s' 1 (m.length : Int)] X = some (.int .i64 d) := by rw [hs'.sl.ld (by omega) (by simp; omega), hn]
        rw [rtrim_snoc] at ht
        by_cases h0 : d = 0
        · subst h0
          rw [if_pos rfl] at ht
          obtain ⟨v', c1, c2⟩ := hs'.cut0 m.length (by simp)
          rw [show (m ++ [(0 : Int)]).take m.length = m by simp] at c2
          have G2 := G.pbs (qs := [.rd encI 1 v' m]) ⟨c2, trivial⟩
          obtain ⟨X2, s2, G3⟩ := G2.st1 1 rfl 0 v' c2.sl.form.1 (by simp)
          simp only [List.set_cons_zero] at G3
          simp [-Int.natCast_add, h1, h2, B.at 0 rfl, lens, hp, w1, ia, ld, c1, s2]
          exact ⟨m.length, by omega, v', m, rfl, ht, by omega, G3⟩
        · rw [if_neg h0] at ht
          simp [-Int.natCast_add, h1, h2, B.at 0 rfl, lens, hp, w1, ia, ld, h0]
          rw [ht] at G
          exact ⟨s', G⟩
  · rintro e X ⟨h1, h2, s', G⟩
    have B : Box X H.next H.next _ := G.o.2.1
    have sl' := (show Rd _ encI 1 X s' (rtrim l) from G.p.1).sl.len
    have sc' := (show Rd _ encI 1 X s' (rtrim l) from G.p.1).sl.form.1
    obtain ⟨X1, s1, G1⟩ := G.st1 1 rfl 1 (.bool (b && decide (0 < (rtrim l).length))) rfl (by simp)
    have B1 : Box X1 H.next H.next [s', .bool (b && decide (0 < (rtrim l).length))] := G1.o.2.1
    obtain ⟨X2, s2, G2⟩ := G1.stA 0 rfl 2 [s', .bool (b && decide (0 < (rtrim l).length))] rfl rfl (by simp [sc'])
    have B2 : Box X2 (H.next + 1) (H.next + 1) _ := G2.o.1
    have e2 := G2.end
    obtain ⟨c, hc⟩ : ∃ c, (b && decide (0 < (rtrim l).length)) = c := ⟨_, rfl⟩
    rw [hc] at s1 s2 B1 B2 ⊢
    cases b with
    | false =>
      simp at hc
      subst hc
      simp [h1, h2, B.at 1 rfl, s1, B1.all 2 rfl, s2, ares_cellA (hb := B2)]
      exact ⟨e2.1, e2.2.1⟩
    | true =>
      simp only [Bool.true_and] at hc
      simp [h1, h2, B.at 1 rfl, B.at 0 rfl, sl', hc, s1, B1.all 2 rfl, s2, ares_cellA (hb := B2)]
      exact ⟨e2.1, e2.2.1⟩
theorem c496 (Dt : D496 T) {H : AHeap} {n : Int} : Calls T 496 [.int .i64 n] H fun r H' => H' = H ∧ r = .int .i64 (cmpZ n 0) := by
  refine Calls.fn Dt.pr Dt.fn ?_
  simp [ir496]
  refine WB.bool ?_ ?_
  · intro h; simp at h; simp [cmpZ, h]
  · intro h
    simp at h
    simp
    refine WB.bool ?_ ?_
    · intro h2; simp at h2; simp [cmpZ, h2]; omega
    · intro h2; simp at h2; simp [cmpZ]; omega
theorem div_pow_step (m i : Nat) : m / 10 ^ i = 10 * (m / 10 ^ (i + 1)) + m / 10 ^ i % 10 := by
  rw [Nat.pow_succ, ← Nat.div_div_eq_div_mul]
  omega
theorem cmpZ_nat {m n : Nat} : cmpZ (m : Int) n = if m < n then -1 else if n < m then 1 else 0 := by
  unfold cmpZ
  by_cases h1 : m < n
  · rw [if_pos h1, if_pos (by omega)]
  · rw [if_neg h1, if_neg (by omega)]
    by_cases h2 : n < m
    · rw [if_pos h2, if_pos (by omega)]
    · rw [if_neg h2, if_neg (by omega)]
theorem c475 (Dt : D475 T) {D : Nat → Prop} {H : AHeap} (hw : WF H) (hd : ∀ g, D g → g < H.next) {u v : AV} {x y : Int} (hu : NV D H u x) (hv : NV D H v y) (hx : (rdig x.natAbs).length < 2 ^ 40) (hy : (rdig y.natAbs).length < 2 ^ 40) :
    Calls T 475 [u, v] H fun r H' => Fr H H' ∧ r = .int .i64 (cmpZ (x.natAbs : Int) y.natAbs) := by
  obtain ⟨s, rfl, sc, hs⟩ := hu.box
  obtain ⟨t, rfl, tc, ht⟩ := hv.box
  refine Calls.fn Dt.pr Dt.fn ?_
  have F := ((Fx.start hw hd (ps := [.rd encI 1 s (rdig x.natAbs), .rd encI 1 t (rdig y.natAbs)]) ⟨hs, ht, trivial⟩).bx H.next [s, .bool (bel x)]).bx (H.next + 1) [t, .bool (bel y)]
  simp [ir475, new_next, sc, tc]
  obtain ⟨X, hX⟩ : ∃ X, (H.new [s, .bool (bel x)]).new [t, .bool (bel y)] = X := ⟨_, rfl⟩
  rw [hX] at F ⊢
  have B2 : Box X H.next H.next _ := F.o.2.1
  have B3 : Box X (H.next + 1) (H.next + 1) _ := F.o.1
  have ls : psem .len [s] = some (.int .i64 (rdig x.natAbs).length) := hs.sl.len
  have lt : psem .len [t] = some (.int .i64 (rdig y.natAbs).length) := ht.sl.len
  obtain ⟨m, hm⟩ : ∃ m, x.natAbs = m := ⟨_, rfl⟩
  obtain ⟨n, hn⟩ : ∃ n, y.natAbs = n := ⟨_, rfl⟩
  rw [hm] at ls hx
  rw [hn] at lt hy
  have hsX := (show Rd _ encI 1 X s (rdig x.natAbs) from F.p.1)
  have htX := (show Rd _ encI 1 X t (rdig y.natAbs) from F.p.2.1)
  rw [hm] at hsX
  rw [hn] at htX
  rw [hm, hn]
  have lenlt : ∀ {a b : Nat}, (rdig a).length < (rdig b).length → a < b := by
    intro a b h
    rw [rdig_len, rdig_len] at h
    apply Classical.byContradiction
    intro hn
    have := dig_len_mono (show b ≤ a by omega)
    omega
  simp [B2.at 0 rfl, B3.at 0 rfl, ls, lt]
  refine WB.bool ?_ ?_
  · intro hne
    simp at hne
    simp [B2.at 0 rfl, B3.at 0 rfl, ls, lt]
    rw [wrap_small (by omega) (by omega)]
    refine WC.of (c496 Dt.d496) ?_
    rintro r X1 ⟨rfl, rfl⟩
    simp
    refine ⟨F.fr, ?_⟩
    rw [cmpZ_nat]
    unfold cmpZ
    rcases Nat.lt_or_gt_of_ne (show (rdig m).length ≠ (rdig n).length by omega) with h | h
    · rw [if_pos (by omega), if_pos (lenlt h)]
    · have := lenlt h
      rw [if_neg (by omega), if_pos (by omega), if_neg (by omega), if_pos (by omega)]
  · intro heq
    simp at heq
    obtain ⟨L, hL⟩ : ∃ L, (rdig m).length = L := ⟨_, rfl⟩
    rw [hL] at heq ls hx
    have heq : L = (rdig n).length := by omega
    rw [← heq] at lt
    have w0 : IntKind.i64.wrap ((L : Int) - 1) = (L : Int) - 1 := wrap_small (by omega) (by omega)
    have mlt : m / 10 ^ L = 0 := Nat.div_eq_of_lt (by rw [← hL, rdig_len]; exact dig_lt m)
    have nlt : n / 10 ^ L = 0 := Nat.div_eq_of_lt (by rw [heq, rdig_len]; exact dig_lt n)
    simp [B2.at 0 rfl, ls, w0]
    refine W_loop (fun (i : Nat) e Y => Y = X ∧ e 2 = .ptr (some (H.next, 0)) ∧ e 3 = .ptr (some (H.next + 1, 0)) ∧ i ≤ L ∧ e 5 = .int .i64 ((i : Int) - 1) ∧ m / 10 ^ i = n / 10 ^ i) id L ?_ ?_
    · exact ⟨rfl, rfl, rfl, Nat.le_refl _, rfl, by rw [mlt, nlt]⟩
    · rintro i e Y ⟨rfl, h2, h3, hi, h5, he⟩
      simp [h5]
      refine WB.bool ?_ ?_
      · intro hge
        simp at hge
        obtain ⟨j, rfl⟩ : ∃ j, i = j + 1 := ⟨i - 1, by omega⟩
        have hj : ((j + 1 : Nat) : Int) - 1 = (j : Int) := by omega
        rw [hj] at h5
        have d1 : nth (rdig m) (j : Int) = _ := nth_rdig m j
        have d2 : nth (rdig n) (j : Int) = _ := nth_rdig n j
        obtain ⟨a, ha⟩ : ∃ a, m / 10 ^ j % 10 = a := ⟨_, rfl⟩
        obtain ⟨b, hb⟩ : ∃ b, n / 10 ^ j % 10 = b := ⟨_, rfl⟩
        rw [ha] at d1
        rw [hb] at d2
        have ia1 : psem (.ia 1) [s, .int .i64 (j : Int)] = some (elt s 1 (j : Int)) := hsX.sl.ia (by omega) (by rw [hL]; omega)
        have ia2 : psem (.ia 1) [t, .int .i64 (j : Int)] = some (elt t 1 (j : Int)) := htX.sl.ia (by omega) (by omega)
        have ld1 : rsem (.ld 1 false) [elt s 1 (j : Int)] Y = some (.int .i64 (a : Int)) := by rw [hsX.sl.ld (by omega) (by rw [hL]; omega), d1]
        have ld2 : rsem (.ld 1 false) [elt t 1 (j : Int)] Y = some (.int .i64 (b : Int)) := by rw [htX.sl.ld (by omega) (by omega), d2]
        have e1 := div_pow_step m j
        have e2 := div_pow_step n j
        rw [ha] at e1
        rw [hb] at e2
        simp [h2, h3, h5, B2.at 0 rfl, B3.at 0 rfl, ia1, ia2, ld1, ld2]
        refine WB.bool ?_ ?_
        · intro hab
          simp at hab
          simp [h2, h3, h5, B2.at 0 rfl, B3.at 0 rfl, ia1, ia2, ld1, ld2]
          rw [wrap_small (by omega) (by omega)]
          refine WC.of (c496 Dt.d496) ?_
          rintro r X1 ⟨rfl, rfl⟩
          simp
          refine ⟨F.fr, ?_⟩
          rw [cmpZ_nat]
          unfold cmpZ
          have lt_of : ∀ {p q : Nat}, p / 10 ^ j < q / 10 ^ j → p < q := by
            intro p q h
            apply Classical.byContradiction
            intro hn
            have := Nat.div_le_div_right (c := 10 ^ j) (show q ≤ p by omega)
            omega
          rcases Nat.lt_or_gt_of_ne (show a ≠ b by omega) with h | h
          · rw [if_pos (by omega), if_pos (lt_of (by omega))]
          · have := lt_of (p := n) (q := m) (by omega)
            rw [if_neg (by omega), if_pos (by omega), if_neg (by omega), if_pos (by omega)]
        · intro hab
          simp at hab
          simp [h2, h3, h5]
          rw [wrap_small (by omega) (by omega)]
          exact ⟨j, by omega, by omega, rfl, by omega⟩
      · intro hlt
        simp at hlt
        have : i = 0 := by omega
        subst this
        rw [Nat.pow_zero, Nat.div_one, Nat.div_one] at he
        simp
        refine ⟨F.fr, ?_⟩
        subst he
        rw [cmpZ_nat, if_neg (by omega), if_neg (by omega)]
end Go.Am

/- Contracts of the reference's numbers: reading and writing. -/
set_option linter.unusedVariables false
set_option linter.unusedSimpArgs false
namespace Go.Am
variable {T : Tab}
theorem dl_fd : ∀ (n : Nat) (d : List UInt8), d.length = n → d.all digB = true → dl d = fd d.length (valS d) ∧ valS d < 10 ^ d.length := by
  intro n
  induction n with
  | zero => intro d hl h; have := List.eq_nil_of_length_eq_zero hl; subst this; simp [dl, fd, valS]
  | succ n ih =>
    intro d hl h
    rcases List.eq_nil_or_concat d with rfl | ⟨d, c, rfl⟩
    · simp at hl
    · rw [List.concat_eq_append] at *
      simp only [List.all_append, List.all_cons, List.all_nil, Bool.and_true, Bool.and_eq_true] at h
      obtain ⟨i1, i2⟩ := ih d (by simpa using hl) h.1
      have hc := h.2
      simp only [digB, Bool.and_eq_true, decide_eq_true_eq] at hc
      rw [valS_snoc]
      refine ⟨?_, ?_⟩
      · rw [List.length_append, List.length_singleton, fd_succ, show (10 * valS d + (c.toNat - 48)) / 10 = valS d by omega, show (10 * valS d + (c.toNat - 48)) % 10 = c.toNat - 48 by omega, ← i1]
        simp [dl]
      · rw [List.length_append, List.length_singleton, Nat.pow_succ]; omega
theorem rtrim_dl {d : List UInt8} (h : d.all digB = true) : rtrim (dl d).reverse = rdig (valS d) := by
  obtain ⟨h1, h2⟩ := dl_fd d.length d rfl h
  rw [h1]
  exact rtrim_rfd h2
/-- A right text, in parts. -/
theorem readS_parts {s : List UInt8} {z : Int} (h : readS s = some z) : ∃ (d : List UInt8) (neg : Bool), s = (if neg then [45] else []) ++ d ∧ d.all digB = true ∧ d.length ≤ 400 ∧ z = sgn neg (valS d) ∧ (neg = true → valS d ≠ 0) := by
  unfold readS at h
  have hs : s = (if (cutP s [45]).2 then [45] else []) ++ (cutP s [45]).1 := by
    unfold cutP
    split
    · rename_i h
      simp only [List.length_singleton] at h ⊢
      conv => lhs; rw [← List.take_append_drop 1 s, h]
      rfl
    · rfl
  obtain ⟨d, hd⟩ : ∃ d, (cutP s [45]).1 = d := ⟨_, rfl⟩
  obtain ⟨neg, hneg⟩ : ∃ neg, (cutP s [45]).2 = neg := ⟨_, rfl⟩
  rw [hd, hneg] at h hs
  refine ⟨d, neg, hs, ?_⟩
  unfold readD at h
  split at h
  · rename_i h0
    obtain ⟨rfl, rfl⟩ := h0
    simp at h
    subst h
    exact ⟨by decide, by decide, rfl, by simp⟩
  · split at h
    · cases h
    · rename_i hn
      simp only [not_or, Bool.not_eq_false] at hn
      obtain ⟨b1, b2, b3, b4⟩ := hn
      simp at h
      exact ⟨b4, by omega, h.symm, fun _ => (dig_dl b1 b2 b4).1⟩
theorem c448 (Dt : D448 T) {D : Nat → Prop} {H : AHeap} (hw : WF H) (hd : ∀ g, D g → g < H.next) {s : List UInt8} (hr : (readS s).isSome = true) :
    Calls T 448 [.str s] H fun r H' => Fr H H' ∧ NV D H' r (rdS s) := by
  obtain ⟨z, hz⟩ := Option.isSome_iff_exists.1 hr
  have ez : rdS s = z := by unfold rdS; rw [hz]; rfl
  rw [ez]
  obtain ⟨d, neg, rfl, hall, hlen, rfl, hneg⟩ := readS_parts hz
  obtain ⟨off, hoff⟩ : ∃ off, (if neg then 1 else 0) = off := ⟨_, rfl⟩
  have lsg : (if neg then [(45 : UInt8)] else []).length = off := by rw [← hoff]; cases neg <;> rfl
  obtain ⟨S, hS⟩ : ∃ S, (if neg then [(45 : UInt8)] else []) ++ d = S := ⟨_, rfl⟩
  have lS : S.length = off + d.length := by rw [← hS, List.length_append, lsg]
  have off1 : off ≤ 1 := by rw [← hoff]; split <;> omega
  rw [hS]
  refine Calls.fn Dt.pr Dt.fn ?_
  have F := (((Fx.start hw hd (ps := []) trivial).bx H.next [.slc none 0 0 none, .bool false]).bx (H.next + 1) [.slc none 0 0 none, .bool false]).nil encI 1 0
  have w0 : IntKind.i64.wrap ((S.length : Int) - 1) = (S.length : Int) - 1 := wrap_small (by omega) (by omega)
  simp [-Wk_seq, ir448, new_next, w0]
  rw [Wk_seq]
  simp [-Wk_seq, w0]
  refine W_cut (fun e X => e 2 = .ptr (some (H.next, 0)) ∧ e 3 = .ptr (some (H.next + 1, 0)) ∧ ∃ v f, Fx H D [.own encI 1 v (dl d).reverse f, .box (H.next + 1) [v, .bool neg], .box H.next [.slc none 0 0 none, .bool false]] [] X) ?_ ?_
  · simp [w0]
    refine W_loop (fun (i : Nat) e X => e 0 = .str S ∧ e 2 = .ptr (some (H.next, 0)) ∧ e 3 = .ptr (some (H.next + 1, 0)) ∧ i ≤ S.length ∧ e 4 = .int .i64 ((i : Int) - 1) ∧ ∃ v f, Fx H D [.own encI 1 v (dl (d.drop (i - off))).reverse f, .box (H.next + 1) [v, .bool (neg && decide (i = 0))], .box H.next [.slc none 0 0 none, .bool false]] [] X) id S.length ?_ ?_
    · refine ⟨rfl, rfl, rfl, Nat.le_refl _, by simp, .slc none 0 0 none, none, ?_⟩
      have e1 : d.drop (S.length - off) = [] := by rw [List.drop_eq_nil_iff]; omega
      have e2 : (neg && decide (S.length = 0)) = false := by
        cases neg with
        | false => rfl
        | true => simp at hoff; simp; intro h; rw [h] at lS; simp at lS; omega
      rw [e1, e2]
      exact F
    · rintro i e X ⟨h0, h2, h3, hi, h4, v, f, G⟩
      simp [h4]
      refine WB.bool ?_ ?_
      · intro hge
        simp at hge
        obtain ⟨j, rfl⟩ : ∃ j, i = j + 1 := ⟨i - 1, by omega⟩
        have hj : ((j + 1 : Nat) : Int) - 1 = (j : Int) := by omega
        rw [hj] at h4
        have hjl : (j : Int) < (S.length : Int) := by omega
        have wj : IntKind.i64.wrap ((j : Int) - 1) = (j : Int) - 1 := wrap_small (by omega) (by omega)
        have B3 : Box X (H.next + 1) (H.next + 1) _ := G.o.2.1
        have jf : (neg && decide (j + 1 = 0)) = false := by simp
        rw [jf] at B3 G
        by_cases hjo : j < off
        · have hneg1 : neg = true := by
            cases neg with
            | true => rfl
            | false => simp at hoff; omega
          subst hneg1
          have hj0 : j = 0 := by omega
          subst hj0
          have hn : nth S ((0 : Nat) : Int) = 45 := by rw [← hS]; rfl
          obtain ⟨X1, s1, G1⟩ := G.st1 1 rfl 1 (.bool true) rfl (by simp)
          have hn' : nth S 0 = 45 := hn
          have hjl' : (0 : Int) < (S.length : Int) := by omega
          have h4' : e 4 = .int .i64 0 := by rw [h4]; rfl
          have wj' : IntKind.i64.wrap (-1) = -1 := wrap_small (by omega) (by omega)
          simp [h0, h2, h3, h4', hn', hjl', s1, wj']
          have e1 : d.drop (0 + 1 - off) = d := by rw [show 0 + 1 - off = 0 by omega]; rfl
          rw [e1] at G1
          exact ⟨by omega, v, f, G1⟩
        · obtain ⟨k, hk⟩ : ∃ k, j = off + k := ⟨j - off, by omega⟩
          have hkd : k < d.length := by omega
          have hn : nth S (j : Int) = nth d (k : Int) := by
            rw [← hS, hk]
            unfold nth
            simp only [List.getD_eq_getElem?_getD, Int.toNat_natCast]
            rw [List.getElem?_append_right (by omega), lsg]
            congr 2; omega
          obtain ⟨c, hc⟩ : ∃ c, nth d (k : Int) = c := ⟨_, rfl⟩
          have hmem : c ∈ d := by rw [← hc]; simp [nth, hkd]
          have hdg := List.all_eq_true.1 hall c hmem
          simp only [digB, Bool.and_eq_true, decide_eq_true_eq] at hdg
          have hc45 : ¬ ((c.toNat : Int) = 45) := by omega
          have w1 : IntKind.u8.wrap ((c.toNat : Int) - 48) = ((c.toNat - 48 : Nat) : Int) := by
            simp [IntKind.wrap, IntKind.bits, IntKind.signed]; omega
          have w2 : IntKind.i64.wrap ((c.toNat - 48 : Nat) : Int) = ((c.toNat - 48 : Nat) : Int) := wrap_small (by omega) (by omega)
          obtain ⟨b, hb⟩ : ∃ b, c.toNat - 48 = b := ⟨_, rfl⟩
          rw [hb] at w1 w2
          have ed : d.drop (j - off) = c :: d.drop (j + 1 - off) := by
            rw [show j - off = k by omega, show j + 1 - off = k + 1 by omega, List.drop_eq_getElem_cons hkd]
            congr 1
            rw [← hc]; simp [nth, hkd]
          have el : (dl (d.drop (j - off))).reverse = (dl (d.drop (j + 1 - off))).reverse ++ [(b : Int)] := by
            rw [ed, ← hb]; simp [dl]
          have lw : (dl (d.drop (j + 1 - off))).reverse.length ≤ 400 := by simp [dl]; omega
          obtain ⟨v', X1, f', p1, pc, G1⟩ := G.push 0 rfl 8 ((b : Nat) : Int) (by omega) (by omega)
          obtain ⟨X2, s2, G2⟩ := G1.st1 1 rfl 0 v' pc (by simp)
          have B3' : Box (X.new [.int .i64 (b : Int)]) (H.next + 1) (H.next + 1) _ := B3.keeps G.wf (G.wf.keeps_new (D := fun _ => False)) (fun h => h)
          simp (disch := omega) [h0, h2, h3, h4, hjl, hn, hc, hc45]
          refine W_floats ?_
          simp only [WT_cons, WT_nil]
          simp [h0, h3, h4, hjl, hn, hc, w1, w2, B3.at 0 rfl, wsem0_bsl1 (v := .int .i64 (b : Int)) rfl, p1, s2]
          simp [floatOk, wanted, AV.same_refl, h0, h2, h3, h4, wj, B3.at 0 rfl, B3'.at 0 rfl]
          refine ⟨j, by omega, by omega, rfl, v', f', ?_⟩
          rw [el]
          have jf2 : (neg && decide (j = 0)) = false := by
            cases neg with
            | false => rfl
            | true => simp at hoff; simp; omega
          rw [jf2]
          exact G2
      · intro hlt
        simp at hlt
        have : i = 0 := by omega
        subst this
        simp
        refine ⟨h2, h3, v, f, ?_⟩
        have e1 : d.drop (0 - off) = d := by rw [show 0 - off = 0 by omega]; rfl
        rw [e1] at G
        simpa using G
  · rintro e X ⟨h2, h3, v, f, G⟩
    have B3 : Box X (H.next + 1) (H.next + 1) _ := G.o.2.1
    have hlr : (dl d).reverse.length < 2 ^ 40 := by simp [dl]; omega
    have G1 := G.read
    have hv : Rd _ encI 1 X v (dl d).reverse := G1.p.1
    simp [h2, h3, B3.all 2 rfl]
    refine WC.of (c453 Dt.d453 G1.wf G1.dn hv hlr) ?_
    rintro r Y ⟨fr, s', rfl, hs'⟩
    rw [rtrim_dl hall] at hs' ⊢
    have G2 := G1.callR fr (qs := [.rd encI 1 s' _]) ⟨hs', trivial⟩
    have eb : (neg && decide (0 < (rdig (valS d)).length)) = bel (sgn neg (valS d)) := by
      unfold bel sgn
      rw [Bool.eq_iff_iff]
      simp only [Bool.and_eq_true, decide_eq_true_eq]
      rw [rdig_pos_len]
      cases neg with
      | false => simp
      | true => have := hneg rfl; simp; omega
    rw [eb]
    obtain ⟨Z, s2, G3⟩ := G2.stA 1 rfl 2 [s', .bool (bel (sgn neg (valS d)))] rfl rfl (by simp [hs'.sl.form.1])
    have B : Box Z H.next H.next _ := G3.o.2.1
    simp [h2, s2, ares_cellA (hb := B)]
    exact ⟨G3.end.1, s', rfl, by rw [sgn_abs]; exact G3.end.2.1⟩
end Go.Am

/- Contracts of the reference's numbers: of, write, Valid, checked, told. -/
set_option linter.unusedVariables false
set_option linter.unusedSimpArgs false
namespace Go.Am
variable {T : Tab}
/-- Bytes that may grow, in a buffer of a known type. -/
abbrev Ob.buf (ta : Nat) (v : AV) (l : List UInt8) (f : Option Nat) : Ob :=
  ⟨f.toList, fun H => Own encU 1 H v l f ∧ BufT ta H v, fun _ hw h g hg => by simp at hg; subst hg; exact h.1.2.lt hw, fun _ _ _ hw h k hd => ⟨h.1.keeps hw k fun g hg => hd g (by simp [hg]), h.2.keeps hw k h.1.1⟩⟩
section
variable {H0 H H' : AHeap} {D : Nat → Prop} {os : List Ob} {ps : List Pb}
end
theorem c454 (Dt : D454 T) {D : Nat → Prop} {H : AHeap} (hw : WF H) (hd : ∀ g, D g → g < H.next) {n : Int} (hn : n.natAbs < 2 ^ 63) :
    Calls T 454 [.int .i64 n] H fun r H' => Fr H H' ∧ NV D H' r n := by
  refine Calls.fn Dt.pr Dt.fn ?_
  obtain ⟨b, hb⟩ : ∃ b, bel n = b := ⟨_, rfl⟩
  have hb' : decide (n < 0) = b := hb
  have F := (Fx.start hw hd (ps := []) trivial).bx H.next [.slc none 0 0 none, .bool false]
  have F1 := F.bx (H.next + 1) [.slc none 0 0 none, .bool false]
  obtain ⟨X, s1, F2⟩ := F1.stA 0 rfl 2 [.slc none 0 0 none, .bool b] rfl rfl (by simp)
  have F3 := F2.nil encI 1 0
  simp [-Wk_seq, ir454]
  rw [Wk_seq]
  simp [-Wk_seq, new_next, psem_bld', fill, splice, hb', s1]
  rw [Wk_seq]
  simp [-Wk_seq]
  rw [Wk_seq]
  refine W_cut (fun e Y => Y = X ∧ e 2 = .ptr (some (H.next, 0)) ∧ e 3 = .ptr (some (H.next + 1, 0)) ∧ e 4 = .int .u64 n.natAbs) ?_ ?_
  · by_cases h0 : n < 0
    · have w1 : IntKind.u64.wrap n = 2 ^ 64 + n := by simp [IntKind.wrap, IntKind.bits, IntKind.signed]; omega
      have w2 : IntKind.u64.wrap (-(2 ^ 64 + n)) = n.natAbs := by simp [IntKind.wrap, IntKind.bits, IntKind.signed]; omega
      have w2' : IntKind.u64.wrap (-(18446744073709551616 + n)) = n.natAbs := by rw [← w2]; rfl
      have w1' : IntKind.u64.wrap n = 18446744073709551616 + n := by rw [w1]; rfl
      simp only [W_seq, W_region]
      simp [h0, w1']
      rw [← w2']
    · have w1 : IntKind.u64.wrap n = n.natAbs := by simp [IntKind.wrap, IntKind.bits, IntKind.signed]; omega
      simp [h0, w1]
  · rintro e Y ⟨rfl, h2, h3, h4⟩
    obtain ⟨m, hm⟩ : ∃ m, n.natAbs = m := ⟨_, rfl⟩
    rw [hm] at h4 hn
    have h19 : (rdig m).length ≤ 19 := rdig_len_le 19 m (by omega)
    refine W_cut (fun e X => e 2 = .ptr (some (H.next, 0)) ∧ e 3 = .ptr (some (H.next + 1, 0)) ∧ ∃ v f, Fx H D [.own encI 1 v (rdig m) f, .box (H.next + 1) [v, .bool b], .box H.next [.slc none 0 0 none, .bool false]] [] X) ?_ ?_
    · simp only [W_block]
      refine W_loop (fun (i : Nat) e X => e 2 = .ptr (some (H.next, 0)) ∧ e 3 = .ptr (some (H.next + 1, 0)) ∧ i ≤ m ∧ e 4 = .int .u64 i ∧ ∃ v l f, l ++ rdig i = rdig m ∧ Fx H D [.own encI 1 v l f, .box (H.next + 1) [v, .bool b], .box H.next [.slc none 0 0 none, .bool false]] [] X) id m ?_ ?_
      · exact ⟨h2, h3, Nat.le_refl _, h4, .slc none 0 0 none, [], none, rfl, F3⟩
      · rintro i e X ⟨h2, h3, hi, h4, v, l, f, hl, G⟩
        have B3 : Box X (H.next + 1) (H.next + 1) _ := G.o.2.1
        simp [h4]
        refine WB.bool ?_ ?_
        · intro hpos
          simp at hpos
          have r1 : (i : Int).tmod 10 = ((i % 10 : Nat) : Int) := rfl
          obtain ⟨d, hd'⟩ : ∃ d, i % 10 = d := ⟨_, rfl⟩
          rw [hd'] at r1
          obtain ⟨z, hz⟩ : ∃ z, i / 10 = z := ⟨_, rfl⟩
          have q4 : IntKind.u64.wrap ((i : Int) / 10) = (z : Int) := by
            rw [show (i : Int) / 10 = ((i / 10 : Nat) : Int) by omega, hz]; simp [IntKind.wrap, IntKind.bits, IntKind.signed]; omega
          have q5 : IntKind.u64.wrap ((i : Int).tdiv 10) = (z : Int) := by
            rw [show (i : Int).tdiv 10 = ((i / 10 : Nat) : Int) from rfl, hz]; simp [IntKind.wrap, IntKind.bits, IntKind.signed]; omega
          have w2 : IntKind.i64.wrap (d : Int) = (d : Int) := wrap_small (by omega) (by omega)
          have hll : l.length ≤ 19 := by
            have := congrArg List.length hl
            simp at this
            omega
          obtain ⟨v', X1, f', p1, pc, G1⟩ := G.push 0 rfl 8 ((d : Nat) : Int) (by omega) (by omega)
          obtain ⟨X2, s2, G2⟩ := G1.st1 1 rfl 0 v' pc (by simp)
          simp [h3, h4, B3.at 0 rfl, r1, w2, wsem0_bsl1 (v := .int .i64 (d : Int)) rfl, p1, s2, q4, q5]
          refine ⟨z, by omega, h2, by omega, rfl, v', l ++ [(d : Int)], ?_, f', G2⟩
          rw [← hl, rdig_pos (n := i) (by omega), hd', hz]
          simp
        · intro hz
          simp at hz
          have : i = 0 := by omega
          subst this
          rw [rdig_zero, List.append_nil] at hl
          subst hl
          simp
          exact ⟨h2, h3, v, f, G⟩
    · rintro e X ⟨h2, h3, v, f, G⟩
      have B3 : Box X (H.next + 1) (H.next + 1) _ := G.o.2.1
      have G1 := G.read
      have hv : Rd _ encI 1 X v (rdig m) := G1.p.1
      obtain ⟨Z, s2, G3⟩ := G1.stA 1 rfl 2 [v, .bool b] rfl rfl (by simp [hv.sl.form.1])
      have B : Box Z H.next H.next _ := G3.o.2.1
      simp [h2, h3, B3.all 2 rfl, s2, ares_cellA (hb := B)]
      exact ⟨G3.end.1, v, by rw [hb], by rw [hm]; exact G3.end.2.1⟩
end Go.Am

/- Contracts of the reference's numbers: Valid, checked, told. -/
set_option linter.unusedVariables false
set_option linter.unusedSimpArgs false
namespace Go.Am
variable {T : Tab}
theorem digB_of {c : UInt8} (h : ¬ ((c.toNat : Int) < 48)) (h2 : ¬ (57 < (c.toNat : Int))) : digB c = true := by
  simp only [digB, Bool.and_eq_true, decide_eq_true_eq]; omega
theorem digB_not {c : UInt8} (h : (c.toNat : Int) < 48 ∨ 57 < (c.toNat : Int)) : digB c = false := by
  rw [Bool.eq_false_iff]
  simp only [digB, ne_eq, Bool.and_eq_true, decide_eq_true_eq]; omega
theorem c421 (Dt : D421 T) {H : AHeap} {s : List UInt8} (hs : s.length < 2 ^ 40) : Calls T 421 [.str s] H fun r H' => H' = H ∧ r = .bool (readS s).isSome := by
  refine Calls.fn Dt.pr Dt.fn ?_
  by_cases h0 : s = [48]
  · subst h0
    have : (readS [48]).isSome = true := by decide
    rw [this]
    simp [ir421]
  · obtain ⟨d, hd⟩ : ∃ d, (cutP s [45]).1 = d := ⟨_, rfl⟩
    obtain ⟨neg, hneg⟩ : ∃ neg, (cutP s [45]).2 = neg := ⟨_, rfl⟩
    have hds : d.length ≤ s.length := by rw [← hd]; exact cutP_len _ _
    have hval : (readS s).isSome = (decide (0 < d.length) && decide (d.length ≤ 400) && d.all digB && decide (d.head? ≠ some 48)) := by
      unfold readS
      rw [hd, hneg]
      unfold readD
      have hn1 : ¬ (d = [48] ∧ neg = false) := by
        rintro ⟨rfl, rfl⟩
        unfold cutP at hd hneg
        split at hd
        · rename_i hc; rw [if_pos hc] at hneg; cases hneg
        · exact h0 hd
      rw [if_neg hn1]
      by_cases hb : d = [] ∨ d.head? = some 48 ∨ 400 < d.length ∨ d.all digB = false
      · rw [if_pos hb]
        rcases hb with rfl | hb | hb | hb
        · rfl
        · simp [hb]
        · simp; intro _ h; omega
        · rw [hb]; simp
      · rw [if_neg hb]
        simp only [not_or, Bool.not_eq_false] at hb
        obtain ⟨b1, b2, b3, b4⟩ := hb
        have : 0 < d.length := by cases d with | nil => exact absurd rfl b1 | cons => simp
        simp [b2, b4, this]
        omega
    rw [hval]
    simp [-Wk_seq, ir421]
    rw [Wk_seq]
    simp [-Wk_seq, h0]
    rw [Wk_seq]
    simp [-Wk_seq]
    rw [Wk_seq]
    refine W_cut (fun e H' => H' = H ∧ e 0 = .str d) ?_ ?_
    · cases s with
      | nil =>
        have : d = [] := List.eq_nil_of_length_eq_zero (by simpa using hds)
        subst this
        simp
      | cons c s =>
        have hn : nth (c :: s) 0 = c := rfl
        have hp : (0 : Int) < (s.length : Int) + 1 := by omega
        have hp1 : (1 : Int) ≤ (s.length : Int) + 1 := by omega
        by_cases hc : c = 45
        · subst hc
          have : d = s := by rw [← hd]; simp [cutP]
          subst this
          simp [hn, hp, hp1]
        · have hc' : ¬ ((c.toNat : Int) = 45) := by
            intro e; apply hc
            rw [← UInt8.toNat_inj]
            have : (45 : UInt8).toNat = 45 := rfl
            omega
          have : d = c :: s := by rw [← hd]; simp [cutP, hc]
          subst this
          simp [hn, hp, hc']
    · rintro e H' ⟨rfl, h0'⟩
      simp
      refine W_loop (fun (i : Nat) e X => X = H' ∧ e 0 = .str d ∧ ∃ j : Nat, i + j = d.length ∧ e 3 = .int .i64 j ∧ (d.take j).all digB = true) id d.length ?_ ?_
      · exact ⟨rfl, by simp [h0'], 0, by simp, by simp, by simp⟩
      · rintro i e X ⟨rfl, h0'', j, hj, h3, ha⟩
        simp [h0'', h3]
        refine WB.bool ?_ ?_
        · intro hlt
          simp at hlt
          obtain ⟨c, hc⟩ : ∃ c, nth d (j : Int) = c := ⟨_, rfl⟩
          have hmem : c ∈ d := by rw [← hc]; simp [nth, hlt]
          by_cases h48 : (c.toNat : Int) < 48
          · have hb : d.all digB = false := by
              rw [Bool.eq_false_iff]
              intro h
              have := List.all_eq_true.1 h c hmem
              rw [digB_not (.inl h48)] at this; cases this
            rw [hb]
            simp [h0'', h3, hlt, hc, h48]
          · by_cases h57 : 57 < (c.toNat : Int)
            · have hb : d.all digB = false := by
                rw [Bool.eq_false_iff]
                intro h
                have := List.all_eq_true.1 h c hmem
                rw [digB_not (.inr h57)] at this; cases this
              rw [hb]
              simp [h0'', h3, hlt, hc, h48, h57]
            · simp [h0'', h3, hlt, hc, h48, h57]
              rw [wrap_small (by omega) (by omega)]
              refine ⟨i - 1, by omega, j + 1, by omega, by simp, ?_⟩
              rw [take_nth hlt, hc]
              intro x hx
              rw [List.mem_append, List.mem_singleton] at hx
              rcases hx with hx | rfl
              · exact List.all_eq_true.1 ha x hx
              · exact digB_of h48 h57
        · intro hge
          simp at hge
          rw [List.take_of_length_le hge] at ha
          rw [ha]
          cases d with
          | nil => simp [h0'']
          | cons c d =>
            have hn : nth (c :: d) 0 = c := rfl
            have hp : (0 : Int) < (d.length : Int) + 1 := by omega
            by_cases h4 : (c :: d).length ≤ 400
            · have h4' : (d.length : Int) + 1 ≤ 400 := by simp at h4; omega
              have h4'' : d.length + 1 ≤ 400 := by simpa using h4
              have hu := u8_48 (c := c)
              have hu' : ((c.toNat : Int) = 48) ↔ c = 48 := by rw [hu]; omega
              simp [h0'', hn, hp, h4', h4'', hu']
            · have h4' : ¬ (d.length : Int) + 1 ≤ 400 := by simp at h4; omega
              have h4'' : ¬ d.length + 1 ≤ 400 := by simpa using h4
              simp [h0'', hn, hp, h4', h4'']
theorem c447 (Dt : D447 T) {H : AHeap} {v : AV} {l : List (List UInt8)} (hv : Sl encS 1 H v l) (hl : l.length < 2 ^ 40) (hs : ∀ s ∈ l, s.length < 2 ^ 40) : Calls T 447 [v] H fun r H' => H' = H ∧ r = .int .i64 (errS l) := by
  refine Calls.fn Dt.pr Dt.fn ?_
  obtain ⟨E, hE⟩ : ∃ E, errS l = E := ⟨_, rfl⟩
  rw [hE]
  unfold errS numsS at hE
  have lv := hv.len
  simp [ir447]
  refine W_loop (fun (i : Nat) e X => X = H ∧ e 0 = v ∧ ∃ j : Nat, i + j = l.length ∧ e 3 = .int .i64 j ∧ ∀ s ∈ l.take j, ¬ 401 < s.length) id l.length ?_ ?_
  · exact ⟨rfl, rfl, 0, by simp, rfl, by simp⟩
  · rintro i e X ⟨rfl, h0, j, hj, h3, ha⟩
    simp [h0, h3, lv]
    refine WB.bool ?_ ?_
    · intro hlt
      simp at hlt
      obtain ⟨s, hs'⟩ : ∃ s, nth l (j : Int) = s := ⟨_, rfl⟩
      have hmem : s ∈ l := by rw [← hs']; simp [nth, hlt]
      by_cases h4 : 401 < s.length
      · have h4' : (401 : Int) < (s.length : Int) := by omega
        have hany : (l.any fun s => decide (401 < s.length)) = true := List.any_eq_true.2 ⟨s, hmem, by simpa using h4⟩
        rw [if_pos hany] at hE
        subst hE
        simp (disch := omega) [h0, h3, hv.ia, hv.ld, hs', h4']
      · have h4' : ¬ (401 : Int) < (s.length : Int) := by omega
        simp (disch := omega) [h0, h3, hv.ia, hv.ld, hs', h4']
        rw [wrap_small (by omega) (by omega)]
        refine ⟨i - 1, by omega, j + 1, by omega, by simp, ?_⟩
        intro x hx
        rw [take_nth hlt, List.mem_append, List.mem_singleton] at hx
        rcases hx with hx | rfl
        · have := ha x hx; omega
        · rw [hs']; omega
    · intro hge
      simp at hge
      rw [List.take_of_length_le hge] at ha
      have hany : ¬ (l.any fun s => decide (401 < s.length)) = true := by
        intro h
        obtain ⟨s, h1, h2⟩ := List.any_eq_true.1 h
        exact ha s h1 (by simpa using h2)
      rw [if_neg hany] at hE
      simp
      refine W_loop (fun (i : Nat) e Y => Y = X ∧ e 0 = v ∧ ∃ j : Nat, i + j = l.length ∧ e 4 = .int .i64 j ∧ ∀ s ∈ l.take j, (readS s).isSome = true) id l.length ?_ ?_
      · exact ⟨rfl, by simp [h0], 0, by simp, by simp, by simp⟩
      · rintro i e Y ⟨rfl, h0, j, hj, h4, hb⟩
        simp [h0, h4, lv]
        refine WB.bool ?_ ?_
        · intro hlt
          simp at hlt
          obtain ⟨s, hs'⟩ : ∃ s, nth l (j : Int) = s := ⟨_, rfl⟩
          have hmem : s ∈ l := by rw [← hs']; simp [nth, hlt]
          simp (disch := omega) [h0, h4, hv.ia, hv.ld, hs']
          refine WC.of (c421 Dt.d421 (hs s hmem)) ?_
          rintro r Z ⟨rfl, rfl⟩
          cases hz : readS s with
          | none =>
            have hany2 : (l.any fun s => (readS s).isNone) = true := List.any_eq_true.2 ⟨s, hmem, by rw [hz]; rfl⟩
            rw [if_pos hany2] at hE
            subst hE
            simp
          | some z =>
            simp [h0, h4]
            rw [wrap_small (by omega) (by omega)]
            refine ⟨i - 1, by omega, j + 1, by omega, by simp, ?_⟩
            intro x hx
            rw [take_nth hlt, List.mem_append, List.mem_singleton] at hx
            rcases hx with hx | rfl
            · exact hb x hx
            · rw [hs', hz]; rfl
        · intro hge
          simp at hge
          rw [List.take_of_length_le hge] at hb
          have hany2 : ¬ (l.any fun s => (readS s).isNone) = true := by
            intro h
            obtain ⟨s, h1, h2⟩ := List.any_eq_true.1 h
            have := hb s h1
            cases hz : readS s with
            | none => rw [hz] at this; cases this
            | some z => rw [hz] at h2; cases h2
          rw [if_neg hany2] at hE
          subst hE
          simp
end Go.Am

/- Contracts of the reference's numbers: sum and difference. -/
set_option linter.unusedVariables false
set_option linter.unusedSimpArgs false
namespace Go.Am
variable {T : Tab}
end Go.Am

/- Contracts of the reference's numbers: products. -/
set_option linter.unusedVariables false
set_option linter.unusedSimpArgs false
namespace Go.Am
variable {T : Tab}
end Go.Am

/- Contracts of the reference's numbers: quotients. -/
set_option linter.unusedVariables false
set_option linter.unusedSimpArgs false
namespace Go.Am
variable {T : Tab}
end Go.Am

/- Contracts of the reference: Add, Sub, Mul, Div, Compare, Digits, Int, Pow, Prime. -/
set_option linter.unusedVariables false
set_option linter.unusedSimpArgs false
namespace Go.Am
variable {T : Tab}
theorem errS_some1 {a : List UInt8} (h : errS [a] = 0) : (readS a).isSome = true := by
  obtain ⟨_, h2⟩ := errS_ok h
  obtain ⟨z, hz⟩ := h2 a (by simp)
  rw [hz]; rfl
theorem rdS_rlen (s : List UInt8) : (rdig (rdS s).natAbs).length ≤ 400 := by rw [rdig_len]; exact rdS_len s
theorem one_read (Dc : D447 T) (Dr : D448 T) {H : AHeap} (hw : WF H) {a : List UInt8} (ha : a.length < 2 ^ 40) :
    wsem0 (.bsl 1 1 [.str []] [(0, 1)]) [.str a] H = some (.slc (some (H.next, 0)) 1 1 (some 1), H.new [.str a]) ∧
    Calls T 447 [.slc (some (H.next, 0)) 1 1 (some 1)] (H.new [.str a]) (fun r X => X = H.new [.str a] ∧ r = .int .i64 (errS [a])) ∧
    Fx H (fun _ => False) [] [] (H.new [.str a]) :=
  ⟨(slS1 hw a).1, c447 Dc (slS1 hw a).2 (by simp) (by simpa using ha), (Fx.start hw (D := fun _ => False) (fun _ h => h.elim) (ps := []) trivial).call hw.fr_new⟩
theorem c441 (Dt : D441 T) {H : AHeap} (hw : WF H) {a : List UInt8} (ha : a.length < 2 ^ 40) : Calls T 441 [.str a] H fun r H' => Fr H H' ∧ r = .tup [.int .i64 (if errS [a] = 0 then max (((dig (rdS a).natAbs).length : Nat) : Int) 1 else 0), .int .i64 (errS [a])] := by
  refine Calls.fn Dt.pr Dt.fn ?_
  obtain ⟨s1, hc, F⟩ := one_read Dt.d447 Dt.d448 hw ha
  simp [ir441, s1]
  refine WC.of hc ?_
  rintro r X ⟨rfl, rfl⟩
  by_cases e : errS [a] = 0
  · simp [e]
    refine WC.of (c448 Dt.d448 F.wf F.dn (errS_some1 e)) ?_
    rintro r1 X1 ⟨fr1, s, rfl, hs⟩
    have ls : psem .len [s] = some (.int .i64 (rdig (rdS a).natAbs).length) := hs.sl.len
    simp [ls]
    refine ⟨(F.call fr1).fr, ?_⟩
    rw [rdig_len]
  · simp [e]
    exact F.fr
theorem c442 (Dt : D442 T) {H : AHeap} (hw : WF H) {a : List UInt8} (ha : a.length < 2 ^ 40) : Calls T 442 [.str a] H fun r H' => Fr H H' ∧ r = .tup [.int .i64 (intS a).1, .bool (intS a).2, .int .i64 (errS [a])] := by
  refine Calls.fn Dt.pr Dt.fn ?_
  obtain ⟨s1, hc, F⟩ := one_read Dt.d447 Dt.d448 hw ha
  simp [ir442, s1]
  refine WC.of hc ?_
  rintro r X ⟨rfl, rfl⟩
  unfold intS
  by_cases e : errS [a] = 0
  · simp [e]
    refine WC.of (c448 Dt.d448 F.wf F.dn (errS_some1 e)) ?_
    rintro r1 X1 ⟨fr1, h1⟩
    obtain ⟨s, rfl, sc, hs⟩ := h1.box
    have F1 := (F.callR fr1 (qs := [.rd encI 1 s _]) ⟨hs, trivial⟩).bx X1.next [.slc none 0 0 none, .bool false]
    obtain ⟨x, hx⟩ : ∃ x, rdS a = x := ⟨_, rfl⟩
    have lx := rdS_rlen a
    rw [hx] at lx F1 ⊢
    obtain ⟨Y, t1, F2⟩ := F1.stA 0 rfl 2 [s, .bool (bel x)] rfl rfl (by simp [sc])
    obtain ⟨n6, hn6⟩ : ∃ n6, X1.next = n6 := ⟨_, rfl⟩
    rw [hn6] at t1 F2
    have B6 : Box Y n6 n6 _ := F2.o.1
    simp [hn6, t1]
    refine W_floats ?_
    simp only [WT_cons, WT_nil]
    simp [B6.all 2 rfl]
    refine WC.of (c454 Dt.d454 F2.wf F2.dn (n := 4611686018427387904) (by omega)) ?_
    rintro r2 Y2 ⟨fr2, h2⟩
    have F3 := F2.callR fr2 (qs := [.nv r2 _]) ⟨h2, trivial⟩
    have B61 : Box Y2 n6 n6 _ := F3.o.1
    simp
    refine WC.of (c475 Dt.d475 F3.wf F3.dn (x := x) (y := 4611686018427387904) ⟨s, rfl, F3.p.2.1⟩ F3.p.1 (by omega) (by have := rdig_len62 (n := (4611686018427387904 : Int).natAbs) (by omega); omega)) ?_
    rintro r3 Y3 ⟨fr3, rfl⟩
    have F4 := F3.call fr3
    have B62 : Box Y3 n6 n6 _ := F4.o.1
    have en : ((4611686018427387904 : Int).natAbs : Int) = 4611686018427387904 := by omega
    rw [en]
    simp [floatOk, wanted, AV.same_refl, B6.all 2 rfl, B61.all 2 rfl]
    have hcm : (0 < cmpZ (x.natAbs : Int) 4611686018427387904 → ¬ x.natAbs ≤ 4611686018427387904) ∧ (¬ 0 < cmpZ (x.natAbs : Int) 4611686018427387904 → x.natAbs ≤ 4611686018427387904) := by
      unfold cmpZ
      split
      · rename_i h; exact ⟨fun h' => by omega, fun _ => by omega⟩
      · split
        · rename_i h; exact ⟨fun _ => by omega, fun h' => by omega⟩
        · rename_i h1 h2; exact ⟨fun h' => by omega, fun _ => by omega⟩
    refine WB.bool ?_ ?_
    rotate_left
    · intro hcc
      have hc : ¬ 0 < cmpZ (x.natAbs : Int) 4611686018427387904 := by simpa using hcc
      have hle : x.natAbs ≤ 4611686018427387904 := hcm.2 hc
      obtain ⟨m, hm⟩ : ∃ m, x.natAbs = m := ⟨_, rfl⟩
      obtain ⟨L, hL⟩ : ∃ L, (rdig m).length = L := ⟨_, rfl⟩
      rw [hm] at hle
      have mlt : m / 10 ^ L = 0 := Nat.div_eq_of_lt (by rw [← hL]; exact rdig_lt m)
      rw [hm, hL] at lx
      have hsY : Rd _ encI 1 Y3 s (rdig x.natAbs) := F4.p.2.1
      have hsY' := hsY
      rw [hm] at hsY'
      have ls : psem .len [s] = some (.int .i64 L) := by rw [hsY'.sl.len, hL]
      have w0 : IntKind.i64.wrap ((L : Int) - 1) = (L : Int) - 1 := wrap_small (by omega) (by omega)
      have hc' : ¬ 0 < cmpZ (m : Int) 4611686018427387904 := by rw [← hm]; exact hc
      simp [hm, hle, hc', B62.at 0 rfl, ls, w0]
      refine W_loop (fun (i : Nat) e Z => Z = Y3 ∧ e 6 = .ptr (some (n6, 0)) ∧ i ≤ L ∧ e 8 = .int .i64 ((i : Int) - 1) ∧ e 7 = .int .i64 (m / 10 ^ i : Nat)) id L ?_ ?_
      · exact ⟨rfl, by simp, Nat.le_refl _, by simp, by rw [mlt]; simp⟩
      · rintro i e Z ⟨rfl, h6, hi, h8, h7⟩
        simp [h8]
        refine WB.bool ?_ ?_
        · intro hge
          simp at hge
          obtain ⟨j, rfl⟩ : ∃ j, i = j + 1 := ⟨i - 1, by omega⟩
          have hj : ((j + 1 : Nat) : Int) - 1 = (j : Int) := by omega
          rw [hj] at h8
          have wj : IntKind.i64.wrap ((j : Int) - 1) = (j : Int) - 1 := wrap_small (by omega) (by omega)
          obtain ⟨d, hd'⟩ : ∃ d, m / 10 ^ j % 10 = d := ⟨_, rfl⟩
          have stp := div_pow_step m j
          rw [hd'] at stp
          obtain ⟨z, hz⟩ : ∃ z, m / 10 ^ (j + 1) = z := ⟨_, rfl⟩
          rw [hz] at stp h7
          have hlem : m / 10 ^ j ≤ m := Nat.div_le_self _ _
          have w1 : IntKind.i64.wrap ((z : Int) * 10) = (z : Int) * 10 := wrap64 (by omega) (by omega)
          have w2 : IntKind.i64.wrap ((z : Int) * 10 + d) = ((m / 10 ^ j : Nat) : Int) := by rw [wrap64 (by omega) (by omega)]; omega
          obtain ⟨y, hy⟩ : ∃ y, m / 10 ^ j = y := ⟨_, rfl⟩
          rw [hy] at w2
          have ia : psem (.ia 1) [s, .int .i64 (j : Int)] = some (elt s 1 (j : Int)) := hsY'.sl.ia (by omega) (by rw [hL]; omega)
          have ld : rsem (.ld 1 false) [elt s 1 (j : Int)] Z = some (.int .i64 (d : Int)) := by rw [hsY'.sl.ld (by omega) (by rw [hL]; omega), nth_rdig, hd']
          simp [h6, h7, h8, B62.at 0 rfl, ia, ld, w1, w2, wj]
          exact ⟨j, by omega, by omega, rfl, by rw [← hy]; simp⟩
        · intro hlt
          simp at hlt
          have : i = 0 := by omega
          subst this
          rw [Nat.pow_zero, Nat.div_one] at h7
          simp [h6, B62.at 1 rfl]
          cases hbx : bel x with
          | true =>
            have hz2 : x < 0 := by simpa [bel] using hbx
            have w : IntKind.i64.wrap (-(m : Int)) = x := by rw [wrap64 (by omega) (by omega)]; omega
            simp [h7, w]
            exact F4.fr
          | false =>
            have hz2 : ¬ x < 0 := by simpa [bel] using hbx
            simp [h7]
            exact ⟨F4.fr, by omega⟩
    · intro hcc
      have hc : 0 < cmpZ (x.natAbs : Int) 4611686018427387904 := by simpa using hcc
      have hle : ¬ x.natAbs ≤ 4611686018427387904 := hcm.1 hc
      simp [hle]
      exact F4.fr
  · simp [e]
    exact F.fr
end Go.Am

/- Contracts of the reference: Prime, powers. -/
set_option linter.unusedVariables false
set_option linter.unusedSimpArgs false
namespace Go.Am
variable {T : Tab}
theorem c445 (Dt : D445 T) {H : AHeap} (hw : WF H) {a : List UInt8} (ha : a.length < 2 ^ 40) : Calls T 445 [.str a] H fun r H' => Fr H H' ∧ PrimeQ (primeE a) (rdS a) r := by
  refine Calls.fn Dt.pr Dt.fn ?_
  obtain ⟨s1, hc, F⟩ := one_read Dt.d447 Dt.d448 hw ha
  simp [ir445, s1]
  refine WC.of hc ?_
  rintro r X ⟨rfl, rfl⟩
  unfold primeE
  by_cases e : errS [a] = 0
  · rw [if_pos e]
    simp [e]
    refine WC.of (c448 Dt.d448 F.wf F.dn (errS_some1 e)) ?_
    rintro r1 X1 ⟨fr1, s, rfl, hs⟩
    have F1 := F.call fr1
    have ls : psem .len [s] = some (.int .i64 (rdig (rdS a).natAbs).length) := hs.sl.len
    rw [rdig_len] at ls
    simp [ls]
    by_cases h12 : 12 < (dig (rdS a).natAbs).length
    · have h12' : (12 : Int) < ((dig (rdS a).natAbs).length : Int) := by omega
      simp [h12, h12']
      exact ⟨F1.fr, false, rfl, by simp⟩
    · have hle : (rdS a).natAbs < 10 ^ 12 := dig_len_iff.1 (by omega)
      have h12' : ¬ (12 : Int) < ((dig (rdS a).natAbs).length : Int) := by omega
      simp [h12, h12']
      refine WC.of (c442 Dt.d442 F1.wf ha) ?_
      rintro r Y ⟨frY, rfl⟩
      have F3 := F1.call frY
      have hi : intS a = (rdS a, true) := by unfold intS; rw [if_pos ⟨e, by omega⟩]
      rw [hi]
      obtain ⟨n, hn⟩ : ∃ n, rdS a = n := ⟨_, rfl⟩
      rw [hn] at hle ⊢
      by_cases hn2 : n < 2
      · simp [hn2]
        exact ⟨F3.fr, false, rfl, by simp [PrimeP]; omega⟩
      simp [hn2]
      refine W_loop (fun (i : Nat) e X => e 5 = .int .i64 n ∧ Fr H X ∧ ∃ d : Nat, 2 ≤ d ∧ d ≤ 2 ^ 21 ∧ i = 2 ^ 21 - d ∧ e 8 = .int .i64 d ∧ ∀ c : Nat, 2 ≤ c → c < d → ((c * c : Nat) : Int) ≤ n → n.tmod c ≠ 0) id (2 ^ 21 - 2) ?_ ?_
      · exact ⟨rfl, F3.fr, 2, by omega, by omega, by omega, rfl, fun c h1 h2 => by omega⟩
      · rintro i e X ⟨h6, fr, d, hd2, hd3, hi, h7, hc⟩
        have hdd : d * d ≤ 2 ^ 42 := Nat.le_trans (Nat.mul_le_mul hd3 hd3) (by decide)
        have w1 : IntKind.i64.wrap ((d : Int) * d) = ((d * d : Nat) : Int) := by rw [Int.natCast_mul]; exact wrap_small (by rw [← Int.natCast_mul]; omega) (by rw [← Int.natCast_mul]; omega)
        obtain ⟨s, hs⟩ : ∃ s, d * d = s := ⟨_, rfl⟩
        rw [hs] at w1 hdd
        simp [h6, h7, w1]
        refine WB.bool ?_ ?_
        · intro hle2
          simp at hle2
          have hlt : d < 2 ^ 20 := by
            apply Classical.byContradiction
            intro hge
            have := Nat.mul_le_mul (show 2 ^ 20 ≤ d by omega) (show 2 ^ 20 ≤ d by omega)
            omega
          have nz : ¬ ((d : Int) = 0) := by omega
          have nz' : ¬ d = 0 := by omega
          simp [h6, h7, nz, nz']
          refine WB.bool ?_ ?_
          · intro hz
            simp at hz
            simp
            refine ⟨fr, false, rfl, ?_⟩
            simp
            rintro ⟨_, h3⟩
            exact h3 d hd2 (by omega) hz
          · intro hz
            simp at hz
            simp [h6, h7]
            rw [wrap_small (by omega) (by omega)]
            refine ⟨2 ^ 21 - (d + 1), by omega, fr, d + 1, by omega, by omega, rfl, by simp, ?_⟩
            intro c h1 h2 h3
            by_cases hcd : c = d
            · subst hcd; exact hz
            · exact hc c h1 (by omega) h3
        · intro hgt
          simp at hgt
          simp [h6]
          refine ⟨fr, true, rfl, ?_⟩
          simp only [true_and, true_iff]
          refine ⟨by omega, fun c h1 h3 => hc c h1 ?_ h3⟩
          apply Classical.byContradiction
          intro hge
          have := Nat.mul_le_mul (show d ≤ c by omega) (show d ≤ c by omega)
          omega
  · rw [if_neg e]
    simp [e]
    exact ⟨F.fr, false, rfl, by simp [e]⟩
theorem NV.nil {D : Nat → Prop} {H : AHeap} : NV D H (.agg [.slc none 0 0 none, .bool false]) 0 := by
  refine ⟨.slc none 0 0 none, rfl, ?_⟩
  rw [show (0 : Int).natAbs = 0 from rfl, rdig_zero]
  exact ⟨(Own.nil (by simp)).1, by intro b off sv n c f cs e; simp at e⟩
end Go.Am
