/- Contracts of the reference's numbers: trimming, reading, comparing. -/
import Derived.Test.YtdgkaachkodimaaDoorAmBigsO
import Derived.Test.YtdgkaachkodimaaDoorAmBigsH
set_option linter.unusedVariables false
set_option linter.unusedSimpArgs false
namespace Go.Am
variable {T : Tab}
/-- A number of the reference: its digits, the lowest one first, and its sign. -/
def NV (D : Nat → Prop) (H : AHeap) (v : AV) (z : Int) : Prop := ∃ s, v = .agg [s, .bool (bel z)] ∧ Rd D encI 1 H s (rdig z.natAbs)
abbrev Pb.nv (v : AV) (z : Int) : Pb := ⟨fun D H => NV D H v z, fun _ _ _ _ hw h k hd => by obtain ⟨s, e, h⟩ := h; exact ⟨s, e, h.go hw k hd⟩⟩
theorem NV.to {D : Nat → Prop} {H : AHeap} {v : AV} {z z' : Int} (h : NV D H v z) (e : z = z') : NV D H v z' := e ▸ h
theorem NV.box {D : Nat → Prop} {H : AHeap} {v : AV} {z : Int} (h : NV D H v z) : ∃ s, v = .agg [s, .bool (bel z)] ∧ s.cell = true ∧ Rd D encI 1 H s (rdig z.natAbs) := by
  obtain ⟨s, e, h⟩ := h; exact ⟨s, e, h.sl.form.1, h⟩
def rtrim (l : List Int) : List Int := (trimZ l.reverse).reverse
theorem rtrim_nil : rtrim [] = [] := rfl
theorem rtrim_snoc (l : List Int) (d : Int) : rtrim (l ++ [d]) = if d = 0 then rtrim l else l ++ [d] := by
  unfold rtrim
  rw [List.reverse_append, List.reverse_singleton, List.singleton_append]
  simp only [trimZ]
  split <;> simp
/-- The lowest digits, the lowest one first. -/
def rfd (L n : Nat) : List Int := (fd L n).reverse
theorem rfd_len (L n : Nat) : (rfd L n).length = L := by simp [rfd, fd_len]
theorem rtrim_rfd {L n : Nat} (h : n < 10 ^ L) : rtrim (rfd L n) = rdig n := by
  unfold rtrim rfd
  rw [List.reverse_reverse, trimZ_fd L n h]
  simp [dig]
theorem rdig_len (n : Nat) : (rdig n).length = (dig n).length := (dig_len n).symm
theorem nth_rdig (n i : Nat) : nth (rdig n) (i : Int) = ((n / 10 ^ i % 10 : Nat) : Int) := by
  rw [← rdig_get]; rfl
theorem rfd_succ (L n : Nat) : rfd (L + 1) n = rfd L n ++ [((n / 10 ^ L % 10 : Nat) : Int)] := by
  unfold rfd; rw [fd_head]; simp
theorem rdig_len0 {n : Nat} : (rdig n).length = 0 ↔ n = 0 := by rw [rdig_len]; exact dig_len0
theorem rdig_pos_len {n : Nat} : 0 < (rdig n).length ↔ n ≠ 0 := by rw [rdig_len]; exact dig_pos_len
/-- A part of a slice of a family that may not be written. -/
theorem Rd.cut0 {α : Type} {enc : α → AV} {sz : Nat} {D : Nat → Prop} {H : AHeap} {v : AV} {l : List α} (h : Rd D enc sz H v l) (j : Nat) (hj : j ≤ l.length) :
    ∃ v', (∀ k : IntKind, psem (.sl sz false true false) [v, .int k j] = some v') ∧ Rd D enc sz H v' (l.take j) := by
  obtain ⟨v', q1, q2, q3, q4⟩ := h.cut 0 j (Nat.zero_le _) hj
  exact ⟨v', fun k => q3 k rfl, by simpa using q4⟩
theorem c453 (Dt : D453 T) {D : Nat → Prop} {H : AHeap} (hw : WF H) (hd : ∀ g, D g → g < H.next) {b : Bool} {s : AV} {l : List Int} (hs : Rd D encI 1 H s l) (hl : l.length < 2 ^ 40) :
    Calls T 453 [.agg [s, .bool b]] H fun r H' => Fr H H' ∧ ∃ s', r = .agg [s', .bool (b && decide (0 < (rtrim l).length))] ∧ Rd D encI 1 H' s' (rtrim l) := by
  refine Calls.fn Dt.pr Dt.fn ?_
  have F := ((Fx.start hw hd (ps := [.rd encI 1 s l]) ⟨hs, trivial⟩).bx H.next [s, .bool b]).bx (H.next + 1) [.slc none 0 0 none, .bool false]
  simp [-Wk_seq, ir453, new_next, Nat.add_assoc, hs.sl.form.1]
  rw [Wk_seq]
  refine W_cut (fun e X => e 1 = .ptr (some (H.next, 0)) ∧ e 2 = .ptr (some (H.next + 1, 0)) ∧ ∃ s', Fx H D [.box (H.next + 1) [.slc none 0 0 none, .bool false], .box H.next [s', .bool b]] [.rd encI 1 s' (rtrim l)] X) ?_ ?_
  · simp only [W_block]
    refine W_loop (fun (w : Nat) e X => e 1 = .ptr (some (H.next, 0)) ∧ e 2 = .ptr (some (H.next + 1, 0)) ∧ ∃ s' l', l'.length = w ∧ rtrim l' = rtrim l ∧ l'.length ≤ l.length ∧ Fx H D [.box (H.next + 1) [.slc none 0 0 none, .bool false], .box H.next [s', .bool b]] [.rd encI 1 s' l'] X) id l.length ?_ ?_
    · exact ⟨rfl, rfl, s, l, rfl, rfl, Nat.le_refl _, F⟩
    · rintro w e X ⟨h1, h2, s', l', hw', ht, hle, G⟩
      have B : Box X H.next H.next _ := G.o.2.1
      have hs' : Rd _ encI 1 X s' l' := G.p.1
      have lens := hs'.sl.len
      rcases List.eq_nil_or_concat l' with rfl | ⟨m, d, rfl⟩
      · rw [rtrim_nil] at ht
        rw [← ht]
        simp [h1, h2, B.at 0 rfl, lens]
        exact ⟨s', G⟩
      · rw [List.concat_eq_append] at *
        have hn : nth (m ++ [d]) (m.length : Int) = d := by simp [nth]
        have hlen : (m ++ [d]).length = m.length + 1 := by simp
        rw [hlen] at lens hle hw'
        have w1 : IntKind.i64.wrap (((m.length + 1 : Nat) : Int) - 1) = (m.length : Int) := by rw [wrap_small (by omega) (by omega)]; omega
        have hp : (0 : Int) < ((m.length + 1 : Nat) : Int) := by omega
        have ia : psem (.ia 1) [s', .int .i64 (m.length : Int)] = some (elt s' 1 (m.length : Int)) := hs'.sl.ia (by omega) (by simp; omega)
        have ld : rsem (.ld 1 false) [elt s' 1 (m.length : Int)] X = some (.int .i64 d) := by rw [hs'.sl.ld (by omega) (by simp; omega), hn]
        rw [rtrim_snoc] at ht
        by_cases h0 : d = 0
        · subst h0
          rw [if_pos rfl] at ht
          obtain ⟨v', c1, c2⟩ := hs'.cut0 m.length (by simp)
          rw [show (m ++ [(0 : Int)]).take m.length = m by simp] at c2
          have G2 := G.pbs (qs := [.rd encI 1 v' m]) ⟨c2, trivial⟩
          obtain ⟨X2, s2, G3⟩ := G2.st1 1 rfl 0 v' c2.sl.form.1 (by simp)
          simp only [List.set_cons_zero] at G3
          simp [-Int.natCast_add, h1, h2, B.at 0 rfl, lens, hp, w1, ia, ld, c1, s2]
          exact ⟨m.length, by omega, v', m, rfl, ht, by omega, G3⟩
        · rw [if_neg h0] at ht
          simp [-Int.natCast_add, h1, h2, B.at 0 rfl, lens, hp, w1, ia, ld, h0]
          rw [ht] at G
          exact ⟨s', G⟩
  · rintro e X ⟨h1, h2, s', G⟩
    have B : Box X H.next H.next _ := G.o.2.1
    have sl' := (show Rd _ encI 1 X s' (rtrim l) from G.p.1).sl.len
    have sc' := (show Rd _ encI 1 X s' (rtrim l) from G.p.1).sl.form.1
    obtain ⟨X1, s1, G1⟩ := G.st1 1 rfl 1 (.bool (b && decide (0 < (rtrim l).length))) rfl (by simp)
    have B1 : Box X1 H.next H.next [s', .bool (b && decide (0 < (rtrim l).length))] := G1.o.2.1
    obtain ⟨X2, s2, G2⟩ := G1.stA 0 rfl 2 [s', .bool (b && decide (0 < (rtrim l).length))] rfl rfl (by simp [sc'])
    have B2 : Box X2 (H.next + 1) (H.next + 1) _ := G2.o.1
    have e2 := G2.end
    obtain ⟨c, hc⟩ : ∃ c, (b && decide (0 < (rtrim l).length)) = c := ⟨_, rfl⟩
    rw [hc] at s1 s2 B1 B2 ⊢
    cases b with
    | false =>
      simp at hc
      subst hc
      simp [h1, h2, B.at 1 rfl, s1, B1.all 2 rfl, s2, ares_cellA (hb := B2)]
      exact ⟨e2.1, e2.2.1⟩
    | true =>
      simp only [Bool.true_and] at hc
      simp [h1, h2, B.at 1 rfl, B.at 0 rfl, sl', hc, s1, B1.all 2 rfl, s2, ares_cellA (hb := B2)]
      exact ⟨e2.1, e2.2.1⟩
theorem c496 (Dt : D496 T) {H : AHeap} {n : Int} : Calls T 496 [.int .i64 n] H fun r H' => H' = H ∧ r = .int .i64 (cmpZ n 0) := by
  refine Calls.fn Dt.pr Dt.fn ?_
  simp [ir496]
  refine WB.bool ?_ ?_
  · intro h; simp at h; simp [cmpZ, h]
  · intro h
    simp at h
    simp
    refine WB.bool ?_ ?_
    · intro h2; simp at h2; simp [cmpZ, h2]; omega
    · intro h2; simp at h2; simp [cmpZ]; omega
theorem div_pow_step (m i : Nat) : m / 10 ^ i = 10 * (m / 10 ^ (i + 1)) + m / 10 ^ i % 10 := by
  rw [Nat.pow_succ, ← Nat.div_div_eq_div_mul]
  omega
theorem cmpZ_nat {m n : Nat} : cmpZ (m : Int) n = if m < n then -1 else if n < m then 1 else 0 := by
  unfold cmpZ
  by_cases h1 : m < n
  · rw [if_pos h1, if_pos (by omega)]
  · rw [if_neg h1, if_neg (by omega)]
    by_cases h2 : n < m
    · rw [if_pos h2, if_pos (by omega)]
    · rw [if_neg h2, if_neg (by omega)]
theorem c475 (Dt : D475 T) {D : Nat → Prop} {H : AHeap} (hw : WF H) (hd : ∀ g, D g → g < H.next) {u v : AV} {x y : Int} (hu : NV D H u x) (hv : NV D H v y) (hx : (rdig x.natAbs).length < 2 ^ 40) (hy : (rdig y.natAbs).length < 2 ^ 40) :
    Calls T 475 [u, v] H fun r H' => Fr H H' ∧ r = .int .i64 (cmpZ (x.natAbs : Int) y.natAbs) := by
  obtain ⟨s, rfl, sc, hs⟩ := hu.box
  obtain ⟨t, rfl, tc, ht⟩ := hv.box
  refine Calls.fn Dt.pr Dt.fn ?_
  have F := ((Fx.start hw hd (ps := [.rd encI 1 s (rdig x.natAbs), .rd encI 1 t (rdig y.natAbs)]) ⟨hs, ht, trivial⟩).bx H.next [s, .bool (bel x)]).bx (H.next + 1) [t, .bool (bel y)]
  simp [ir475, new_next, sc, tc]
  obtain ⟨X, hX⟩ : ∃ X, (H.new [s, .bool (bel x)]).new [t, .bool (bel y)] = X := ⟨_, rfl⟩
  rw [hX] at F ⊢
  have B2 : Box X H.next H.next _ := F.o.2.1
  have B3 : Box X (H.next + 1) (H.next + 1) _ := F.o.1
  have ls : psem .len [s] = some (.int .i64 (rdig x.natAbs).length) := hs.sl.len
  have lt : psem .len [t] = some (.int .i64 (rdig y.natAbs).length) := ht.sl.len
  obtain ⟨m, hm⟩ : ∃ m, x.natAbs = m := ⟨_, rfl⟩
  obtain ⟨n, hn⟩ : ∃ n, y.natAbs = n := ⟨_, rfl⟩
  rw [hm] at ls hx
  rw [hn] at lt hy
  have hsX := (show Rd _ encI 1 X s (rdig x.natAbs) from F.p.1)
  have htX := (show Rd _ encI 1 X t (rdig y.natAbs) from F.p.2.1)
  rw [hm] at hsX
  rw [hn] at htX
  rw [hm, hn]
  have lenlt : ∀ {a b : Nat}, (rdig a).length < (rdig b).length → a < b := by
    intro a b h
    rw [rdig_len, rdig_len] at h
    apply Classical.byContradiction
    intro hn
    have := dig_len_mono (show b ≤ a by omega)
    omega
  simp [B2.at 0 rfl, B3.at 0 rfl, ls, lt]
  refine WB.bool ?_ ?_
  · intro hne
    simp at hne
    simp [B2.at 0 rfl, B3.at 0 rfl, ls, lt]
    rw [wrap_small (by omega) (by omega)]
    refine WC.of (c496 Dt.d496) ?_
    rintro r X1 ⟨rfl, rfl⟩
    simp
    refine ⟨F.fr, ?_⟩
    rw [cmpZ_nat]
    unfold cmpZ
    rcases Nat.lt_or_gt_of_ne (show (rdig m).length ≠ (rdig n).length by omega) with h | h
    · rw [if_pos (by omega), if_pos (lenlt h)]
    · have := lenlt h
      rw [if_neg (by omega), if_pos (by omega), if_neg (by omega), if_pos (by omega)]
  · intro heq
    simp at heq
    obtain ⟨L, hL⟩ : ∃ L, (rdig m).length = L := ⟨_, rfl⟩
    rw [hL] at heq ls hx
    have heq : L = (rdig n).length := by omega
    rw [← heq] at lt
    have w0 : IntKind.i64.wrap ((L : Int) - 1) = (L : Int) - 1 := wrap_small (by omega) (by omega)
    have mlt : m / 10 ^ L = 0 := Nat.div_eq_of_lt (by rw [← hL, rdig_len]; exact dig_lt m)
    have nlt : n / 10 ^ L = 0 := Nat.div_eq_of_lt (by rw [heq, rdig_len]; exact dig_lt n)
    simp [B2.at 0 rfl, ls, w0]
    refine W_loop (fun (i : Nat) e Y => Y = X ∧ e 2 = .ptr (some (H.next, 0)) ∧ e 3 = .ptr (some (H.next + 1, 0)) ∧ i ≤ L ∧ e 5 = .int .i64 ((i : Int) - 1) ∧ m / 10 ^ i = n / 10 ^ i) id L ?_ ?_
    · exact ⟨rfl, rfl, rfl, Nat.le_refl _, rfl, by rw [mlt, nlt]⟩
    · rintro i e Y ⟨rfl, h2, h3, hi, h5, he⟩
      simp [h5]
      refine WB.bool ?_ ?_
      · intro hge
        simp at hge
        obtain ⟨j, rfl⟩ : ∃ j, i = j + 1 := ⟨i - 1, by omega⟩
        have hj : ((j + 1 : Nat) : Int) - 1 = (j : Int) := by omega
        rw [hj] at h5
        have d1 : nth (rdig m) (j : Int) = _ := nth_rdig m j
        have d2 : nth (rdig n) (j : Int) = _ := nth_rdig n j
        obtain ⟨a, ha⟩ : ∃ a, m / 10 ^ j % 10 = a := ⟨_, rfl⟩
        obtain ⟨b, hb⟩ : ∃ b, n / 10 ^ j % 10 = b := ⟨_, rfl⟩
        rw [ha] at d1
        rw [hb] at d2
        have ia1 : psem (.ia 1) [s, .int .i64 (j : Int)] = some (elt s 1 (j : Int)) := hsX.sl.ia (by omega) (by rw [hL]; omega)
        have ia2 : psem (.ia 1) [t, .int .i64 (j : Int)] = some (elt t 1 (j : Int)) := htX.sl.ia (by omega) (by omega)
        have ld1 : rsem (.ld 1 false) [elt s 1 (j : Int)] Y = some (.int .i64 (a : Int)) := by rw [hsX.sl.ld (by omega) (by rw [hL]; omega), d1]
        have ld2 : rsem (.ld 1 false) [elt t 1 (j : Int)] Y = some (.int .i64 (b : Int)) := by rw [htX.sl.ld (by omega) (by omega), d2]
        have e1 := div_pow_step m j
        have e2 := div_pow_step n j
        rw [ha] at e1
        rw [hb] at e2
        simp [h2, h3, h5, B2.at 0 rfl, B3.at 0 rfl, ia1, ia2, ld1, ld2]
        refine WB.bool ?_ ?_
        · intro hab
          simp at hab
          simp [h2, h3, h5, B2.at 0 rfl, B3.at 0 rfl, ia1, ia2, ld1, ld2]
          rw [wrap_small (by omega) (by omega)]
          refine WC.of (c496 Dt.d496) ?_
          rintro r X1 ⟨rfl, rfl⟩
          simp
          refine ⟨F.fr, ?_⟩
          rw [cmpZ_nat]
          unfold cmpZ
          have lt_of : ∀ {p q : Nat}, p / 10 ^ j < q / 10 ^ j → p < q := by
            intro p q h
            apply Classical.byContradiction
            intro hn
            have := Nat.div_le_div_right (c := 10 ^ j) (show q ≤ p by omega)
            omega
          rcases Nat.lt_or_gt_of_ne (show a ≠ b by omega) with h | h
          · rw [if_pos (by omega), if_pos (lt_of (by omega))]
          · have := lt_of (p := n) (q := m) (by omega)
            rw [if_neg (by omega), if_pos (by omega), if_neg (by omega), if_pos (by omega)]
        · intro hab
          simp at hab
          simp [h2, h3, h5]
          rw [wrap_small (by omega) (by omega)]
          exact ⟨j, by omega, by omega, rfl, by omega⟩
      · intro hlt
        simp at hlt
        have : i = 0 := by omega
        subst this
        rw [Nat.pow_zero, Nat.div_one, Nat.div_one] at he
        simp
        refine ⟨F.fr, ?_⟩
        subst he
        rw [cmpZ_nat, if_neg (by omega), if_neg (by omega)]
theorem c489 (Dt : D489 T) {D : Nat → Prop} {H : AHeap} (hw : WF H) (hd : ∀ g, D g → g < H.next) {u : AV} {x : Int} {i : Nat} (hu : NV D H u x) (hx : (rdig x.natAbs).length < 2 ^ 40) (hi : i < 2 ^ 40) :
    Calls T 489 [u, .int .i64 (i : Int)] H fun r H' => Fr H H' ∧ r = .int .i64 ((x.natAbs / 10 ^ i % 10 : Nat) : Int) := by
  obtain ⟨s, rfl, sc, hs⟩ := hu.box
  refine Calls.fn Dt.pr Dt.fn ?_
  have F := (Fx.start hw hd (ps := [.rd encI 1 s (rdig x.natAbs)]) ⟨hs, trivial⟩).bx H.next [s, .bool (bel x)]
  have B2 : Box _ H.next H.next _ := F.o.1
  have ls : psem .len [s] = some (.int .i64 (rdig x.natAbs).length) := hs.sl.len
  have hsX : Rd _ encI 1 _ s (rdig x.natAbs) := F.p.1
  have hn := nth_rdig x.natAbs i
  have hb := dig_beyond (n := x.natAbs) (i := i)
  obtain ⟨d, hd'⟩ : ∃ d, x.natAbs / 10 ^ i % 10 = d := ⟨_, rfl⟩
  rw [hd'] at hn hb ⊢
  simp [ir489, new_next, sc, B2.at 0 rfl, ls]
  refine WB.bool ?_ ?_
  · intro hlt
    simp at hlt
    simp (disch := omega) [B2.at 0 rfl, hsX.sl.ia, hsX.sl.ld, hn]
    exact F.fr
  · intro hge
    simp at hge
    have := hb (by rw [← rdig_len]; exact hge)
    subst this
    simp
    exact F.fr
theorem c485 (Dt : D485 T) {D : Nat → Prop} {H : AHeap} (hw : WF H) (hd : ∀ g, D g → g < H.next) {u : AV} {x : Int} (hu : NV D H u x) :
    Calls T 485 [u] H fun r H' => Fr H H' ∧ NV D H' r (-x) := by
  obtain ⟨s, rfl, sc, hs⟩ := hu.box
  refine Calls.fn Dt.pr Dt.fn ?_
  have F := ((Fx.start hw hd (ps := [.rd encI 1 s (rdig x.natAbs)]) ⟨hs, trivial⟩).bx H.next [s, .bool (bel x)]).bx (H.next + 1) [.slc none 0 0 none, .bool false]
  have B1 : Box _ H.next H.next _ := F.o.2.1
  have ls : psem .len [s] = some (.int .i64 (rdig x.natAbs).length) := hs.sl.len
  obtain ⟨X, s2, F2⟩ := F.stA 0 rfl 2 [s, .bool (bel (-x))] rfl rfl (by simp [sc])
  have B : Box X (H.next + 1) (H.next + 1) _ := F2.o.1
  have scs := hs.sl.form.2
  have fin : Fr H X ∧ NV D X (.agg [s, .bool (bel (-x))]) (-x) := ⟨F2.end.1, s, rfl, by rw [Int.natAbs_neg]; exact F2.end.2.1⟩
  by_cases h0 : x < 0
  · have e1 : bel x = true := by simp [bel, h0]
    have e2 : bel (-x) = false := by simp [bel]; omega
    rw [e1] at B1 s2
    rw [e1]
    rw [e2] at s2 B fin
    simp [ir485, new_next, sc, B1.at 0 rfl, B1.at 1 rfl, psem_bld', fill, splice, scs, s2, ares_cellA (hb := B)]
    exact fin
  · have e1 : bel x = false := by simp [bel]; omega
    have e2 : bel (-x) = decide (0 < (rdig x.natAbs).length) := by
      unfold bel
      rw [Bool.eq_iff_iff]
      simp only [decide_eq_true_eq]
      rw [rdig_pos_len]
      omega
    rw [e1] at B1 s2
    rw [e1]
    rw [e2] at s2 B fin
    simp [ir485, new_next, sc, B1.at 0 rfl, B1.at 1 rfl, ls, psem_bld', fill, splice, scs, s2, ares_cellA (hb := B)]
    exact fin
end Go.Am

/- Contracts of the reference's numbers: reading and writing. -/
set_option linter.unusedVariables false
set_option linter.unusedSimpArgs false
namespace Go.Am
variable {T : Tab}
theorem dl_fd : ∀ (n : Nat) (d : List UInt8), d.length = n → d.all digB = true → dl d = fd d.length (valS d) ∧ valS d < 10 ^ d.length := by
  intro n
  induction n with
  | zero => intro d hl h; have := List.eq_nil_of_length_eq_zero hl; subst this; simp [dl, fd, valS]
  | succ n ih =>
    intro d hl h
    rcases List.eq_nil_or_concat d with rfl | ⟨d, c, rfl⟩
    · simp at hl
    · rw [List.concat_eq_append] at *
      simp only [List.all_append, List.all_cons, List.all_nil, Bool.and_true, Bool.and_eq_true] at h
      obtain ⟨i1, i2⟩ := ih d (by simpa using hl) h.1
      have hc := h.2
      simp only [digB, Bool.and_eq_true, decide_eq_true_eq] at hc
      rw [valS_snoc]
      refine ⟨?_, ?_⟩
      · rw [List.length_append, List.length_singleton, fd_succ, show (10 * valS d + (c.toNat - 48)) / 10 = valS d by omega, show (10 * valS d + (c.toNat - 48)) % 10 = c.toNat - 48 by omega, ← i1]
        simp [dl]
      · rw [List.length_append, List.length_singleton, Nat.pow_succ]; omega
theorem rtrim_dl {d : List UInt8} (h : d.all digB = true) : rtrim (dl d).reverse = rdig (valS d) := by
  obtain ⟨h1, h2⟩ := dl_fd d.length d rfl h
  rw [h1]
  exact rtrim_rfd h2
/-- A right text, in parts. -/
theorem readS_parts {s : List UInt8} {z : Int} (h : readS s = some z) : ∃ (d : List UInt8) (neg : Bool), s = (if neg then [45] else []) ++ d ∧ d.all digB = true ∧ d.length ≤ 400 ∧ z = sgn neg (valS d) ∧ (neg = true → valS d ≠ 0) := by
  unfold readS at h
  have hs : s = (if (cutP s [45]).2 then [45] else []) ++ (cutP s [45]).1 := by
    unfold cutP
    split
    · rename_i h
      simp only [List.length_singleton] at h ⊢
      conv => lhs; rw [← List.take_append_drop 1 s, h]
      rfl
    · rfl
  obtain ⟨d, hd⟩ : ∃ d, (cutP s [45]).1 = d := ⟨_, rfl⟩
  obtain ⟨neg, hneg⟩ : ∃ neg, (cutP s [45]).2 = neg := ⟨_, rfl⟩
  rw [hd, hneg] at h hs
  refine ⟨d, neg, hs, ?_⟩
  unfold readD at h
  split at h
  · rename_i h0
    obtain ⟨rfl, rfl⟩ := h0
    simp at h
    subst h
    exact ⟨by decide, by decide, rfl, by simp⟩
  · split at h
    · cases h
    · rename_i hn
      simp only [not_or, Bool.not_eq_false] at hn
      obtain ⟨b1, b2, b3, b4⟩ := hn
      simp at h
      exact ⟨b4, by omega, h.symm, fun _ => (dig_dl b1 b2 b4).1⟩
theorem c448 (Dt : D448 T) {D : Nat → Prop} {H : AHeap} (hw : WF H) (hd : ∀ g, D g → g < H.next) {s : List UInt8} (hr : (readS s).isSome = true) :
    Calls T 448 [.str s] H fun r H' => Fr H H' ∧ NV D H' r (rdS s) := by
  obtain ⟨z, hz⟩ := Option.isSome_iff_exists.1 hr
  have ez : rdS s = z := by unfold rdS; rw [hz]; rfl
  rw [ez]
  obtain ⟨d, neg, rfl, hall, hlen, rfl, hneg⟩ := readS_parts hz
  obtain ⟨off, hoff⟩ : ∃ off, (if neg then 1 else 0) = off := ⟨_, rfl⟩
  have lsg : (if neg then [(45 : UInt8)] else []).length = off := by rw [← hoff]; cases neg <;> rfl
  obtain ⟨S, hS⟩ : ∃ S, (if neg then [(45 : UInt8)] else []) ++ d = S := ⟨_, rfl⟩
  have lS : S.length = off + d.length := by rw [← hS, List.length_append, lsg]
  have off1 : off ≤ 1 := by rw [← hoff]; split <;> omega
  rw [hS]
  refine Calls.fn Dt.pr Dt.fn ?_
  have F := (((Fx.start hw hd (ps := []) trivial).bx H.next [.slc none 0 0 none, .bool false]).bx (H.next + 1) [.slc none 0 0 none, .bool false]).nil encI 1 0
  have w0 : IntKind.i64.wrap ((S.length : Int) - 1) = (S.length : Int) - 1 := wrap_small (by omega) (by omega)
  simp [-Wk_seq, ir448, new_next, w0]
  rw [Wk_seq]
  simp [-Wk_seq, w0]
  refine W_cut (fun e X => e 2 = .ptr (some (H.next, 0)) ∧ e 3 = .ptr (some (H.next + 1, 0)) ∧ ∃ v f, Fx H D [.own encI 1 v (dl d).reverse f, .box (H.next + 1) [v, .bool neg], .box H.next [.slc none 0 0 none, .bool false]] [] X) ?_ ?_
  · simp [w0]
    refine W_loop (fun (i : Nat) e X => e 0 = .str S ∧ e 2 = .ptr (some (H.next, 0)) ∧ e 3 = .ptr (some (H.next + 1, 0)) ∧ i ≤ S.length ∧ e 4 = .int .i64 ((i : Int) - 1) ∧ ∃ v f, Fx H D [.own encI 1 v (dl (d.drop (i - off))).reverse f, .box (H.next + 1) [v, .bool (neg && decide (i = 0))], .box H.next [.slc none 0 0 none, .bool false]] [] X) id S.length ?_ ?_
    · refine ⟨rfl, rfl, rfl, Nat.le_refl _, by simp, .slc none 0 0 none, none, ?_⟩
      have e1 : d.drop (S.length - off) = [] := by rw [List.drop_eq_nil_iff]; omega
      have e2 : (neg && decide (S.length = 0)) = false := by
        cases neg with
        | false => rfl
        | true => simp at hoff; simp; intro h; rw [h] at lS; simp at lS; omega
      rw [e1, e2]
      exact F
    · rintro i e X ⟨h0, h2, h3, hi, h4, v, f, G⟩
      simp [h4]
      refine WB.bool ?_ ?_
      · intro hge
        simp at hge
        obtain ⟨j, rfl⟩ : ∃ j, i = j + 1 := ⟨i - 1, by omega⟩
        have hj : ((j + 1 : Nat) : Int) - 1 = (j : Int) := by omega
        rw [hj] at h4
        have hjl : (j : Int) < (S.length : Int) := by omega
        have wj : IntKind.i64.wrap ((j : Int) - 1) = (j : Int) - 1 := wrap_small (by omega) (by omega)
        have B3 : Box X (H.next + 1) (H.next + 1) _ := G.o.2.1
        have jf : (neg && decide (j + 1 = 0)) = false := by simp
        rw [jf] at B3 G
        by_cases hjo : j < off
        · have hneg1 : neg = true := by
            cases neg with
            | true => rfl
            | false => simp at hoff; omega
          subst hneg1
          have hj0 : j = 0 := by omega
          subst hj0
          have hn : nth S ((0 : Nat) : Int) = 45 := by rw [← hS]; rfl
          obtain ⟨X1, s1, G1⟩ := G.st1 1 rfl 1 (.bool true) rfl (by simp)
          have hn' : nth S 0 = 45 := hn
          have hjl' : (0 : Int) < (S.length : Int) := by omega
          have h4' : e 4 = .int .i64 0 := by rw [h4]; rfl
          have wj' : IntKind.i64.wrap (-1) = -1 := wrap_small (by omega) (by omega)
          simp [h0, h2, h3, h4', hn', hjl', s1, wj']
          have e1 : d.drop (0 + 1 - off) = d := by rw [show 0 + 1 - off = 0 by omega]; rfl
          rw [e1] at G1
          exact ⟨by omega, v, f, G1⟩
        · obtain ⟨k, hk⟩ : ∃ k, j = off + k := ⟨j - off, by omega⟩
          have hkd : k < d.length := by omega
          have hn : nth S (j : Int) = nth d (k : Int) := by
            rw [← hS, hk]
            unfold nth
            simp only [List.getD_eq_getElem?_getD, Int.toNat_natCast]
            rw [List.getElem?_append_right (by omega), lsg]
            congr 2; omega
          obtain ⟨c, hc⟩ : ∃ c, nth d (k : Int) = c := ⟨_, rfl⟩
          have hmem : c ∈ d := by rw [← hc]; simp [nth, hkd]
          have hdg := List.all_eq_true.1 hall c hmem
          simp only [digB, Bool.and_eq_true, decide_eq_true_eq] at hdg
          have hc45 : ¬ ((c.toNat : Int) = 45) := by omega
          have w1 : IntKind.u8.wrap ((c.toNat : Int) - 48) = ((c.toNat - 48 : Nat) : Int) := by
            simp [IntKind.wrap, IntKind.bits, IntKind.signed]; omega
          have w2 : IntKind.i64.wrap ((c.toNat - 48 : Nat) : Int) = ((c.toNat - 48 : Nat) : Int) := wrap_small (by omega) (by omega)
          obtain ⟨b, hb⟩ : ∃ b, c.toNat - 48 = b := ⟨_, rfl⟩
          rw [hb] at w1 w2
          have ed : d.drop (j - off) = c :: d.drop (j + 1 - off) := by
            rw [show j - off = k by omega, show j + 1 - off = k + 1 by omega, List.drop_eq_getElem_cons hkd]
            congr 1
            rw [← hc]; simp [nth, hkd]
          have el : (dl (d.drop (j - off))).reverse = (dl (d.drop (j + 1 - off))).reverse ++ [(b : Int)] := by
            rw [ed, ← hb]; simp [dl]
          have lw : (dl (d.drop (j + 1 - off))).reverse.length ≤ 400 := by simp [dl]; omega
          obtain ⟨v', X1, f', p1, pc, G1⟩ := G.push 0 rfl 8 ((b : Nat) : Int) (by omega) (by omega)
          obtain ⟨X2, s2, G2⟩ := G1.st1 1 rfl 0 v' pc (by simp)
          have B3' : Box (X.new [.int .i64 (b : Int)]) (H.next + 1) (H.next + 1) _ := B3.keeps G.wf (G.wf.keeps_new (D := fun _ => False)) (fun h => h)
          simp (disch := omega) [h0, h2, h3, h4, hjl, hn, hc, hc45]
          refine W_floats ?_
          simp only [WT_cons, WT_nil]
          simp [h0, h3, h4, hjl, hn, hc, w1, w2, B3.at 0 rfl, wsem0_bsl1 (v := .int .i64 (b : Int)) rfl, p1, s2]
          simp [floatOk, wanted, AV.same_refl, h0, h2, h3, h4, wj, B3.at 0 rfl, B3'.at 0 rfl]
          refine ⟨j, by omega, by omega, rfl, v', f', ?_⟩
          rw [el]
          have jf2 : (neg && decide (j = 0)) = false := by
            cases neg with
            | false => rfl
            | true => simp at hoff; simp; omega
          rw [jf2]
          exact G2
      · intro hlt
        simp at hlt
        have : i = 0 := by omega
        subst this
        simp
        refine ⟨h2, h3, v, f, ?_⟩
        have e1 : d.drop (0 - off) = d := by rw [show 0 - off = 0 by omega]; rfl
        rw [e1] at G
        simpa using G
  · rintro e X ⟨h2, h3, v, f, G⟩
    have B3 : Box X (H.next + 1) (H.next + 1) _ := G.o.2.1
    have hlr : (dl d).reverse.length < 2 ^ 40 := by simp [dl]; omega
    have G1 := G.read
    have hv : Rd _ encI 1 X v (dl d).reverse := G1.p.1
    simp [h2, h3, B3.all 2 rfl]
    refine WC.of (c453 Dt.d453 G1.wf G1.dn hv hlr) ?_
    rintro r Y ⟨fr, s', rfl, hs'⟩
    rw [rtrim_dl hall] at hs' ⊢
    have G2 := G1.callR fr (qs := [.rd encI 1 s' _]) ⟨hs', trivial⟩
    have eb : (neg && decide (0 < (rdig (valS d)).length)) = bel (sgn neg (valS d)) := by
      unfold bel sgn
      rw [Bool.eq_iff_iff]
      simp only [Bool.and_eq_true, decide_eq_true_eq]
      rw [rdig_pos_len]
      cases neg with
      | false => simp
      | true => have := hneg rfl; simp; omega
    rw [eb]
    obtain ⟨Z, s2, G3⟩ := G2.stA 1 rfl 2 [s', .bool (bel (sgn neg (valS d)))] rfl rfl (by simp [hs'.sl.form.1])
    have B : Box Z H.next H.next _ := G3.o.2.1
    simp [h2, s2, ares_cellA (hb := B)]
    exact ⟨G3.end.1, s', rfl, by rw [sgn_abs]; exact G3.end.2.1⟩
end Go.Am

/- Contracts of the reference's numbers: of, write, Valid, checked, told. -/
set_option linter.unusedVariables false
set_option linter.unusedSimpArgs false
namespace Go.Am
variable {T : Tab}
theorem Sl.b2sF {H : AHeap} {v : AV} {l : List UInt8} (h : Sl encU 1 H v l) : rsem .b2s [v] H = some (.str l) := by
  obtain ⟨hx1, hx2⟩ := h.cells
  obtain ⟨_, p, sv, cap, rfl, _⟩ := h
  have hb : ∀ l : List UInt8, bytesOf (l.map encU) = some l := by
    intro l
    induction l with
    | nil => rfl
    | cons c l ih =>
      simp only [List.map_cons, bytesOf, ih]
      simp
  rw [Cell.flat] at hx2
  simp only [rsem, hx2, hb]
/-- Bytes that may grow, in a buffer of a known type. -/
abbrev Ob.buf (ta : Nat) (v : AV) (l : List UInt8) (f : Option Nat) : Ob :=
  ⟨f.toList, fun H => Own encU 1 H v l f ∧ BufT ta H v, fun _ hw h g hg => by simp at hg; subst hg; exact h.1.2.lt hw, fun _ _ _ hw h k hd => ⟨h.1.keeps hw k fun g hg => hd g (by simp [hg]), h.2.keeps hw k h.1.1⟩⟩
section
variable {H0 H H' : AHeap} {D : Nat → Prop} {os : List Ob} {ps : List Pb}
theorem Fx.nilB (F : Fx H0 D os ps H) (ta z : Nat) : Fx H0 D (.buf ta (.slc none z 0 none) [] none :: os) ps H :=
  F.mkO F.wf .refl _ (by simp) (by simp) ⟨Own.nil (by simp), trivial⟩
theorem Fx.pushB (F : Fx H0 D os ps H) (i : Nat) {ta : Nat} {v : AV} {l : List UInt8} {f : Option Nat} (hi : os[i]? = some (.buf ta v l f)) (c : UInt8) (hl : l.length + 1 ≤ 2 ^ 45) :
    ∃ v' H' f', wsem0 (.appT ta 1 1) [v, .slc (some (H.next, 0)) 1 1 (some 1)] (H.new [.int .u8 c.toNat]) = some (v', H') ∧ v'.cell = true ∧ Fx H0 D (os.set i (.buf ta v' (l ++ [c]) f')) ps H' := by
  obtain ⟨ho, hb⟩ : Own encU 1 H v l f ∧ BufT ta H v := obsAll_mem F.o _ (List.mem_of_getElem? hi)
  have fc := F.wf.fr_new (cs := [AV.int .u8 c.toNat])
  have o1 : Sl encU 1 (H.new [AV.int .u8 c.toNat]) (.slc (some (H.next, 0)) 1 1 (some 1)) [c] :=
    (F.wf.own_new (enc := encU) (l := [c]) (cs := [AV.int .u8 c.toNat]) (cap := some 1) (sz := 1) (Cell.len _) (by simp) (by simp) (by simp)).1
  obtain ⟨v', Y, f', q1, q2, q3, q4, q5, q6⟩ := app_t fc.wf (ho.fr F.wf fc) (hb.keeps F.wf fc.keeps ho.1) o1 (by simp; omega)
  have nx : (H.new [AV.int .u8 c.toNat]).next = H.next + 1 := rfl
  refine ⟨v', Y, f', q1, q3.1.form.1, F.upd i hi (.buf ta v' (l ++ [c]) f') q2 ?_ (fun g hg => ?_) (by cases f' <;> simp) ⟨q3, q4⟩⟩
  · exact (fc.keeps.mono fun g hg => .inr hg).trans (q5.mono fun g hg => .inl (by simp [hg]))
  · have hg : f' = some g := by simpa using hg
    rcases q6 g hg with h | h
    · exact .inl (by simp [h])
    · exact .inr (by omega)
end
theorem c454 (Dt : D454 T) {D : Nat → Prop} {H : AHeap} (hw : WF H) (hd : ∀ g, D g → g < H.next) {n : Int} (hn : n.natAbs < 2 ^ 63) :
    Calls T 454 [.int .i64 n] H fun r H' => Fr H H' ∧ NV D H' r n := by
  refine Calls.fn Dt.pr Dt.fn ?_
  obtain ⟨b, hb⟩ : ∃ b, bel n = b := ⟨_, rfl⟩
  have hb' : decide (n < 0) = b := hb
  have F := (Fx.start hw hd (ps := []) trivial).bx H.next [.slc none 0 0 none, .bool false]
  have F1 := F.bx (H.next + 1) [.slc none 0 0 none, .bool false]
  obtain ⟨X, s1, F2⟩ := F1.stA 0 rfl 2 [.slc none 0 0 none, .bool b] rfl rfl (by simp)
  have F3 := F2.nil encI 1 0
  simp [-Wk_seq, ir454]
  rw [Wk_seq]
  simp [-Wk_seq, new_next, psem_bld', fill, splice, hb', s1]
  rw [Wk_seq]
  simp [-Wk_seq]
  rw [Wk_seq]
  refine W_cut (fun e Y => Y = X ∧ e 2 = .ptr (some (H.next, 0)) ∧ e 3 = .ptr (some (H.next + 1, 0)) ∧ e 4 = .int .u64 n.natAbs) ?_ ?_
  · by_cases h0 : n < 0
    · have w1 : IntKind.u64.wrap n = 2 ^ 64 + n := by simp [IntKind.wrap, IntKind.bits, IntKind.signed]; omega
      have w2 : IntKind.u64.wrap (-(2 ^ 64 + n)) = n.natAbs := by simp [IntKind.wrap, IntKind.bits, IntKind.signed]; omega
      have w2' : IntKind.u64.wrap (-(18446744073709551616 + n)) = n.natAbs := by rw [← w2]; rfl
      have w1' : IntKind.u64.wrap n = 18446744073709551616 + n := by rw [w1]; rfl
      simp only [W_seq, W_region]
      simp [h0, w1']
      rw [← w2']
    · have w1 : IntKind.u64.wrap n = n.natAbs := by simp [IntKind.wrap, IntKind.bits, IntKind.signed]; omega
      simp [h0, w1]
  · rintro e Y ⟨rfl, h2, h3, h4⟩
    obtain ⟨m, hm⟩ : ∃ m, n.natAbs = m := ⟨_, rfl⟩
    rw [hm] at h4 hn
    have h19 : (rdig m).length ≤ 19 := rdig_len_le 19 m (by omega)
    refine W_cut (fun e X => e 2 = .ptr (some (H.next, 0)) ∧ e 3 = .ptr (some (H.next + 1, 0)) ∧ ∃ v f, Fx H D [.own encI 1 v (rdig m) f, .box (H.next + 1) [v, .bool b], .box H.next [.slc none 0 0 none, .bool false]] [] X) ?_ ?_
    · simp only [W_block]
      refine W_loop (fun (i : Nat) e X => e 2 = .ptr (some (H.next, 0)) ∧ e 3 = .ptr (some (H.next + 1, 0)) ∧ i ≤ m ∧ e 4 = .int .u64 i ∧ ∃ v l f, l ++ rdig i = rdig m ∧ Fx H D [.own encI 1 v l f, .box (H.next + 1) [v, .bool b], .box H.next [.slc none 0 0 none, .bool false]] [] X) id m ?_ ?_
      · exact ⟨h2, h3, Nat.le_refl _, h4, .slc none 0 0 none, [], none, rfl, F3⟩
      · rintro i e X ⟨h2, h3, hi, h4, v, l, f, hl, G⟩
        have B3 : Box X (H.next + 1) (H.next + 1) _ := G.o.2.1
        simp [h4]
        refine WB.bool ?_ ?_
        · intro hpos
          simp at hpos
          have r1 : (i : Int).tmod 10 = ((i % 10 : Nat) : Int) := rfl
          obtain ⟨d, hd'⟩ : ∃ d, i % 10 = d := ⟨_, rfl⟩
          rw [hd'] at r1
          obtain ⟨z, hz⟩ : ∃ z, i / 10 = z := ⟨_, rfl⟩
          have q4 : IntKind.u64.wrap ((i : Int) / 10) = (z : Int) := by
            rw [show (i : Int) / 10 = ((i / 10 : Nat) : Int) by omega, hz]; simp [IntKind.wrap, IntKind.bits, IntKind.signed]; omega
          have q5 : IntKind.u64.wrap ((i : Int).tdiv 10) = (z : Int) := by
            rw [show (i : Int).tdiv 10 = ((i / 10 : Nat) : Int) from rfl, hz]; simp [IntKind.wrap, IntKind.bits, IntKind.signed]; omega
          have w2 : IntKind.i64.wrap (d : Int) = (d : Int) := wrap_small (by omega) (by omega)
          have hll : l.length ≤ 19 := by
            have := congrArg List.length hl
            simp at this
            omega
          obtain ⟨v', X1, f', p1, pc, G1⟩ := G.push 0 rfl 8 ((d : Nat) : Int) (by omega) (by omega)
          obtain ⟨X2, s2, G2⟩ := G1.st1 1 rfl 0 v' pc (by simp)
          simp [h3, h4, B3.at 0 rfl, r1, w2, wsem0_bsl1 (v := .int .i64 (d : Int)) rfl, p1, s2, q4, q5]
          refine ⟨z, by omega, h2, by omega, rfl, v', l ++ [(d : Int)], ?_, f', G2⟩
          rw [← hl, rdig_pos (n := i) (by omega), hd', hz]
          simp
        · intro hz
          simp at hz
          have : i = 0 := by omega
          subst this
          rw [rdig_zero, List.append_nil] at hl
          subst hl
          simp
          exact ⟨h2, h3, v, f, G⟩
    · rintro e X ⟨h2, h3, v, f, G⟩
      have B3 : Box X (H.next + 1) (H.next + 1) _ := G.o.2.1
      have G1 := G.read
      have hv : Rd _ encI 1 X v (rdig m) := G1.p.1
      obtain ⟨Z, s2, G3⟩ := G1.stA 1 rfl 2 [v, .bool b] rfl rfl (by simp [hv.sl.form.1])
      have B : Box Z H.next H.next _ := G3.o.2.1
      simp [h2, h3, B3.all 2 rfl, s2, ares_cellA (hb := B)]
      exact ⟨G3.end.1, v, by rw [hb], by rw [hm]; exact G3.end.2.1⟩
theorem c455 (Dt : D455 T) {D : Nat → Prop} {H : AHeap} (hw : WF H) (hd : ∀ g, D g → g < H.next) {u : AV} {z : Int} (hu : NV D H u z) (hl : (rdig z.natAbs).length < 2 ^ 40) :
    Calls T 455 [u] H fun r H' => Fr H H' ∧ r = .str (showS z) := by
  obtain ⟨s, rfl, sc, hs⟩ := hu.box
  refine Calls.fn Dt.pr Dt.fn ?_
  have F := (Fx.start hw hd (ps := [.rd encI 1 s (rdig z.natAbs)]) ⟨hs, trivial⟩).bx H.next [s, .bool (bel z)]
  have B : Box _ H.next H.next _ := F.o.1
  have ls : psem .len [s] = some (.int .i64 (rdig z.natAbs).length) := hs.sl.len
  simp [ir455, sc, B.at 0 rfl, ls]
  by_cases h0 : z = 0
  · subst h0
    simp [rdig_zero, showS]
    exact F.fr
  · have hp := rdig_pos_len.2 (show z.natAbs ≠ 0 by omega)
    have hne' : ¬ rdig z.natAbs = [] := by intro e; rw [e] at hp; simp at hp
    have F1 := F.nilB 5 0
    simp [-Wk_seq, hne']
    rw [Wk_seq]
    simp [-Wk_seq]
    rw [Wk_seq]
    refine W_cut (fun e Y => e 1 = .ptr (some (H.next, 0)) ∧ ∃ f, Fx H D [.buf 5 (e 3) (if bel z then [45] else []) f, .box H.next [s, .bool (bel z)]] [.rd encI 1 s (rdig z.natAbs)] Y) ?_ ?_
    · simp [B.at 1 rfl]
      cases hz : bel z with
      | false =>
        rw [hz] at F1
        simp
        exact ⟨none, F1⟩
      | true =>
        rw [hz] at F1
        obtain ⟨v', X1, f', p1, pc, F2⟩ := F1.pushB 0 rfl 45 (by simp)
        have p1' : wsem0 (.appT 5 1 1) [.slc none 0 0 none, .slc (some ((H.new [s, .bool true]).next, 0)) 1 1 (some 1)] ((H.new [s, .bool true]).new [.int .u8 45]) = some (v', X1) := p1
        simp [wsem0_bsl1 (v := .int .u8 45) rfl, p1']
        exact ⟨f', F2⟩
    · rintro e Y ⟨h1, f, G⟩
      have BY : Box Y H.next H.next _ := G.o.2.1
      obtain ⟨L, hL⟩ : ∃ L, (rdig z.natAbs).length = L := ⟨_, rfl⟩
      rw [hL] at ls hl
      have w0 : IntKind.i64.wrap ((L : Int) - 1) = (L : Int) - 1 := wrap_small (by omega) (by omega)
      simp [h1, BY.at 0 rfl, ls, w0]
      refine W_loop (fun (i : Nat) e X => e 1 = .ptr (some (H.next, 0)) ∧ i ≤ L ∧ e 4 = .int .i64 ((i : Int) - 1) ∧ ∃ f, Fx H D [.buf 5 (e 3) ((if bel z then [45] else []) ++ (((rdig z.natAbs).drop i).reverse.map chS)) f, .box H.next [s, .bool (bel z)]] [.rd encI 1 s (rdig z.natAbs)] X) id L ?_ ?_
      · refine ⟨by simp [h1], Nat.le_refl _, by simp, f, ?_⟩
        rw [List.drop_of_length_le (by omega)]
        simpa using G
      · rintro i e X ⟨h1, hi, h4, f, G⟩
        simp [h4]
        refine WB.bool ?_ ?_
        · intro hge
          simp at hge
          obtain ⟨j, rfl⟩ : ∃ j, i = j + 1 := ⟨i - 1, by omega⟩
          have hj : ((j + 1 : Nat) : Int) - 1 = (j : Int) := by omega
          rw [hj] at h4
          have wj : IntKind.i64.wrap ((j : Int) - 1) = (j : Int) - 1 := wrap_small (by omega) (by omega)
          have hlt : j < (rdig z.natAbs).length := by omega
          have hsX : Rd _ encI 1 X s (rdig z.natAbs) := G.p.1
          have BX : Box X H.next H.next _ := G.o.2.1
          obtain ⟨d, hd'⟩ : ∃ d, nth (rdig z.natAbs) (j : Int) = d := ⟨_, rfl⟩
          have hmem : d ∈ rdig z.natAbs := by rw [← hd']; simp [nth, hlt]
          obtain ⟨d0, d9⟩ := rdig_mem _ d hmem
          have ec := chS_nat d0 d9
          have w1 : IntKind.i64.wrap (48 + d) = 48 + d := wrap_small (by omega) (by omega)
          have w2 : IntKind.u8.wrap (48 + d) = ((chS d).toNat : Int) := by
            rw [ec]; simp [IntKind.wrap, IntKind.bits, IntKind.signed]; omega
          have ia : psem (.ia 1) [s, .int .i64 (j : Int)] = some (elt s 1 (j : Int)) := hsX.sl.ia (by omega) (by omega)
          have ld : rsem (.ld 1 false) [elt s 1 (j : Int)] X = some (.int .i64 d) := by rw [hsX.sl.ld (by omega) (by omega), hd']
          obtain ⟨v', X1, f', p1, pc, G1⟩ := G.pushB 0 rfl (chS d) (by simp; split <;> simp <;> omega)
          simp [h1, h4, BX.at 0 rfl, ia, ld, w1, w2, wsem0_bsl1 (v := .int .u8 ((chS d).toNat : Int)) rfl, p1, wj]
          refine ⟨j, by omega, by omega, rfl, f', ?_⟩
          have ed : (rdig z.natAbs).drop j = d :: (rdig z.natAbs).drop (j + 1) := by
            rw [List.drop_eq_getElem_cons hlt]; congr 1; rw [← hd']; simp [nth, hlt]
          have ed2 : ((rdig z.natAbs).drop j).reverse.map chS = ((rdig z.natAbs).drop (j + 1)).reverse.map chS ++ [chS d] := by rw [ed]; simp
          have G1' : Fx H D [.buf 5 v' ((if bel z then [45] else []) ++ (((rdig z.natAbs).drop j).reverse.map chS)) f', .box H.next [s, .bool (bel z)]] [.rd encI 1 s (rdig z.natAbs)] X1 := by
            rw [ed2, ← List.append_assoc]; exact G1
          simpa using G1'
        · intro hlt
          simp at hlt
          have : i = 0 := by omega
          subst this
          have es : (if bel z then [45] else []) ++ ((rdig z.natAbs).drop 0).reverse.map chS = showS z := by unfold showS; rw [if_neg h0]; rfl
          rw [es] at G
          have hb := (show Own encU 1 X (e 3) (showS z) f ∧ BufT 5 X (e 3) from G.o.1).1.1.b2sF
          simp [hb]
          exact G.fr
end Go.Am

/- Contracts of the reference's numbers: Valid, checked, told. -/
set_option linter.unusedVariables false
set_option linter.unusedSimpArgs false
namespace Go.Am
variable {T : Tab}
theorem digB_of {c : UInt8} (h : ¬ ((c.toNat : Int) < 48)) (h2 : ¬ (57 < (c.toNat : Int))) : digB c = true := by
  simp only [digB, Bool.and_eq_true, decide_eq_true_eq]; omega
theorem digB_not {c : UInt8} (h : (c.toNat : Int) < 48 ∨ 57 < (c.toNat : Int)) : digB c = false := by
  rw [Bool.eq_false_iff]
  simp only [digB, ne_eq, Bool.and_eq_true, decide_eq_true_eq]; omega
theorem c421 (Dt : D421 T) {H : AHeap} {s : List UInt8} (hs : s.length < 2 ^ 40) : Calls T 421 [.str s] H fun r H' => H' = H ∧ r = .bool (readS s).isSome := by
  refine Calls.fn Dt.pr Dt.fn ?_
  by_cases h0 : s = [48]
  · subst h0
    have : (readS [48]).isSome = true := by decide
    rw [this]
    simp [ir421]
  · obtain ⟨d, hd⟩ : ∃ d, (cutP s [45]).1 = d := ⟨_, rfl⟩
    obtain ⟨neg, hneg⟩ : ∃ neg, (cutP s [45]).2 = neg := ⟨_, rfl⟩
    have hds : d.length ≤ s.length := by rw [← hd]; exact cutP_len _ _
    have hval : (readS s).isSome = (decide (0 < d.length) && decide (d.length ≤ 400) && d.all digB && decide (d.head? ≠ some 48)) := by
      unfold readS
      rw [hd, hneg]
      unfold readD
      have hn1 : ¬ (d = [48] ∧ neg = false) := by
        rintro ⟨rfl, rfl⟩
        unfold cutP at hd hneg
        split at hd
        · rename_i hc; rw [if_pos hc] at hneg; cases hneg
        · exact h0 hd
      rw [if_neg hn1]
      by_cases hb : d = [] ∨ d.head? = some 48 ∨ 400 < d.length ∨ d.all digB = false
      · rw [if_pos hb]
        rcases hb with rfl | hb | hb | hb
        · rfl
        · simp [hb]
        · simp; intro _ h; omega
        · rw [hb]; simp
      · rw [if_neg hb]
        simp only [not_or, Bool.not_eq_false] at hb
        obtain ⟨b1, b2, b3, b4⟩ := hb
        have : 0 < d.length := by cases d with | nil => exact absurd rfl b1 | cons => simp
        simp [b2, b4, this]
        omega
    rw [hval]
    simp [-Wk_seq, ir421]
    rw [Wk_seq]
    simp [-Wk_seq, h0]
    rw [Wk_seq]
    simp [-Wk_seq]
    rw [Wk_seq]
    refine W_cut (fun e H' => H' = H ∧ e 0 = .str d) ?_ ?_
    · cases s with
      | nil =>
        have : d = [] := List.eq_nil_of_length_eq_zero (by simpa using hds)
        subst this
        simp
      | cons c s =>
        have hn : nth (c :: s) 0 = c := rfl
        have hp : (0 : Int) < (s.length : Int) + 1 := by omega
        have hp1 : (1 : Int) ≤ (s.length : Int) + 1 := by omega
        by_cases hc : c = 45
        · subst hc
          have : d = s := by rw [← hd]; simp [cutP]
          subst this
          simp [hn, hp, hp1]
        · have hc' : ¬ ((c.toNat : Int) = 45) := by
            intro e; apply hc
            rw [← UInt8.toNat_inj]
            have : (45 : UInt8).toNat = 45 := rfl
            omega
          have : d = c :: s := by rw [← hd]; simp [cutP, hc]
          subst this
          simp [hn, hp, hc']
    · rintro e H' ⟨rfl, h0'⟩
      simp
      refine W_loop (fun (i : Nat) e X => X = H' ∧ e 0 = .str d ∧ ∃ j : Nat, i + j = d.length ∧ e 3 = .int .i64 j ∧ (d.take j).all digB = true) id d.length ?_ ?_
      · exact ⟨rfl, by simp [h0'], 0, by simp, by simp, by simp⟩
      · rintro i e X ⟨rfl, h0'', j, hj, h3, ha⟩
        simp [h0'', h3]
        refine WB.bool ?_ ?_
        · intro hlt
          simp at hlt
          obtain ⟨c, hc⟩ : ∃ c, nth d (j : Int) = c := ⟨_, rfl⟩
          have hmem : c ∈ d := by rw [← hc]; simp [nth, hlt]
          by_cases h48 : (c.toNat : Int) < 48
          · have hb : d.all digB = false := by
              rw [Bool.eq_false_iff]
              intro h
              have := List.all_eq_true.1 h c hmem
              rw [digB_not (.inl h48)] at this; cases this
            rw [hb]
            simp [h0'', h3, hlt, hc, h48]
          · by_cases h57 : 57 < (c.toNat : Int)
            · have hb : d.all digB = false := by
                rw [Bool.eq_false_iff]
                intro h
                have := List.all_eq_true.1 h c hmem
                rw [digB_not (.inr h57)] at this; cases this
              rw [hb]
              simp [h0'', h3, hlt, hc, h48, h57]
            · simp [h0'', h3, hlt, hc, h48, h57]
              rw [wrap_small (by omega) (by omega)]
              refine ⟨i - 1, by omega, j + 1, by omega, by simp, ?_⟩
              rw [take_nth hlt, hc]
              intro x hx
              rw [List.mem_append, List.mem_singleton] at hx
              rcases hx with hx | rfl
              · exact List.all_eq_true.1 ha x hx
              · exact digB_of h48 h57
        · intro hge
          simp at hge
          rw [List.take_of_length_le hge] at ha
          rw [ha]
          cases d with
          | nil => simp [h0'']
          | cons c d =>
            have hn : nth (c :: d) 0 = c := rfl
            have hp : (0 : Int) < (d.length : Int) + 1 := by omega
            by_cases h4 : (c :: d).length ≤ 400
            · have h4' : (d.length : Int) + 1 ≤ 400 := by simp at h4; omega
              have h4'' : d.length + 1 ≤ 400 := by simpa using h4
              have hu := u8_48 (c := c)
              have hu' : ((c.toNat : Int) = 48) ↔ c = 48 := by rw [hu]; omega
              simp [h0'', hn, hp, h4', h4'', hu']
            · have h4' : ¬ (d.length : Int) + 1 ≤ 400 := by simp at h4; omega
              have h4'' : ¬ d.length + 1 ≤ 400 := by simpa using h4
              simp [h0'', hn, hp, h4', h4'']
theorem c447 (Dt : D447 T) {H : AHeap} {v : AV} {l : List (List UInt8)} (hv : Sl encS 1 H v l) (hl : l.length < 2 ^ 40) (hs : ∀ s ∈ l, s.length < 2 ^ 40) : Calls T 447 [v] H fun r H' => H' = H ∧ r = .int .i64 (errS l) := by
  refine Calls.fn Dt.pr Dt.fn ?_
  obtain ⟨E, hE⟩ : ∃ E, errS l = E := ⟨_, rfl⟩
  rw [hE]
  unfold errS numsS at hE
  have lv := hv.len
  simp [ir447]
  refine W_loop (fun (i : Nat) e X => X = H ∧ e 0 = v ∧ ∃ j : Nat, i + j = l.length ∧ e 3 = .int .i64 j ∧ ∀ s ∈ l.take j, ¬ 401 < s.length) id l.length ?_ ?_
  · exact ⟨rfl, rfl, 0, by simp, rfl, by simp⟩
  · rintro i e X ⟨rfl, h0, j, hj, h3, ha⟩
    simp [h0, h3, lv]
    refine WB.bool ?_ ?_
    · intro hlt
      simp at hlt
      obtain ⟨s, hs'⟩ : ∃ s, nth l (j : Int) = s := ⟨_, rfl⟩
      have hmem : s ∈ l := by rw [← hs']; simp [nth, hlt]
      by_cases h4 : 401 < s.length
      · have h4' : (401 : Int) < (s.length : Int) := by omega
        have hany : (l.any fun s => decide (401 < s.length)) = true := List.any_eq_true.2 ⟨s, hmem, by simpa using h4⟩
        rw [if_pos hany] at hE
        subst hE
        simp (disch := omega) [h0, h3, hv.ia, hv.ld, hs', h4']
      · have h4' : ¬ (401 : Int) < (s.length : Int) := by omega
        simp (disch := omega) [h0, h3, hv.ia, hv.ld, hs', h4']
        rw [wrap_small (by omega) (by omega)]
        refine ⟨i - 1, by omega, j + 1, by omega, by simp, ?_⟩
        intro x hx
        rw [take_nth hlt, List.mem_append, List.mem_singleton] at hx
        rcases hx with hx | rfl
        · have := ha x hx; omega
        · rw [hs']; omega
    · intro hge
      simp at hge
      rw [List.take_of_length_le hge] at ha
      have hany : ¬ (l.any fun s => decide (401 < s.length)) = true := by
        intro h
        obtain ⟨s, h1, h2⟩ := List.any_eq_true.1 h
        exact ha s h1 (by simpa using h2)
      rw [if_neg hany] at hE
      simp
      refine W_loop (fun (i : Nat) e Y => Y = X ∧ e 0 = v ∧ ∃ j : Nat, i + j = l.length ∧ e 4 = .int .i64 j ∧ ∀ s ∈ l.take j, (readS s).isSome = true) id l.length ?_ ?_
      · exact ⟨rfl, by simp [h0], 0, by simp, by simp, by simp⟩
      · rintro i e Y ⟨rfl, h0, j, hj, h4, hb⟩
        simp [h0, h4, lv]
        refine WB.bool ?_ ?_
        · intro hlt
          simp at hlt
          obtain ⟨s, hs'⟩ : ∃ s, nth l (j : Int) = s := ⟨_, rfl⟩
          have hmem : s ∈ l := by rw [← hs']; simp [nth, hlt]
          simp (disch := omega) [h0, h4, hv.ia, hv.ld, hs']
          refine WC.of (c421 Dt.d421 (hs s hmem)) ?_
          rintro r Z ⟨rfl, rfl⟩
          cases hz : readS s with
          | none =>
            have hany2 : (l.any fun s => (readS s).isNone) = true := List.any_eq_true.2 ⟨s, hmem, by rw [hz]; rfl⟩
            rw [if_pos hany2] at hE
            subst hE
            simp
          | some z =>
            simp [h0, h4]
            rw [wrap_small (by omega) (by omega)]
            refine ⟨i - 1, by omega, j + 1, by omega, by simp, ?_⟩
            intro x hx
            rw [take_nth hlt, List.mem_append, List.mem_singleton] at hx
            rcases hx with hx | rfl
            · exact hb x hx
            · rw [hs', hz]; rfl
        · intro hge
          simp at hge
          rw [List.take_of_length_le hge] at hb
          have hany2 : ¬ (l.any fun s => (readS s).isNone) = true := by
            intro h
            obtain ⟨s, h1, h2⟩ := List.any_eq_true.1 h
            have := hb s h1
            cases hz : readS s with
            | none => rw [hz] at this; cases this
            | some z => rw [hz] at h2; cases h2
          rw [if_neg hany2] at hE
          subst hE
          simp
theorem c465 (Dt : D465 T) {D : Nat → Prop} {H : AHeap} (hw : WF H) (hd : ∀ g, D g → g < H.next) {u : AV} {z : Int} (hu : NV D H u z) (hl : (rdig z.natAbs).length < 2 ^ 40) :
    Calls T 465 [u] H fun r H' => Fr H H' ∧ r = .tup [.str (outS z).2, .int .i64 (outS z).1] := by
  obtain ⟨s, rfl, sc, hs⟩ := hu.box
  refine Calls.fn Dt.pr Dt.fn ?_
  have F := (Fx.start hw hd (ps := [.rd encI 1 s (rdig z.natAbs)]) ⟨hs, trivial⟩).bx H.next [s, .bool (bel z)]
  have B : Box _ H.next H.next _ := F.o.1
  have ls : psem .len [s] = some (.int .i64 (rdig z.natAbs).length) := hs.sl.len
  have hbig : bigZ z = decide (400 < (rdig z.natAbs).length) := by unfold bigZ; rw [rdig_len]
  unfold outS
  rw [hbig]
  by_cases h4 : 400 < (rdig z.natAbs).length
  · have h4' : (400 : Int) < ((rdig z.natAbs).length : Int) := by omega
    simp [ir465, sc, B.at 0 rfl, ls, h4, h4']
    exact F.fr
  · have h4' : ¬ (400 : Int) < ((rdig z.natAbs).length : Int) := by omega
    simp [ir465, sc, B.at 0 rfl, ls, h4, h4', B.all 2 rfl]
    refine WC.of (c455 Dt.d455 F.wf F.dn (z := z) ⟨s, rfl, F.p.1⟩ hl) ?_
    rintro r Y ⟨fr, rfl⟩
    simp
    exact (F.call fr).fr
end Go.Am

/- Contracts of the reference's numbers: sum and difference. -/
set_option linter.unusedVariables false
set_option linter.unusedSimpArgs false
namespace Go.Am
variable {T : Tab}
theorem rfd_zero0 (n : Nat) : rfd 0 n = [] := by simp [rfd, fd]
theorem bel_sgn_rd (b : Bool) (n : Nat) : (b && decide (0 < (rdig n).length)) = bel (sgn b n) := by
  unfold bel sgn
  rw [Bool.eq_iff_iff]
  simp only [Bool.and_eq_true, decide_eq_true_eq]
  rw [rdig_pos_len]
  cases b <;> simp <;> omega
theorem c451 (Dt : D451 T) {D : Nat → Prop} {H : AHeap} (hw : WF H) (hd : ∀ g, D g → g < H.next) {u v : AV} {x y : Int} (hu : NV D H u x) (hv : NV D H v y) (hx : (rdig x.natAbs).length < 2 ^ 20) (hy : (rdig y.natAbs).length < 2 ^ 20) :
    Calls T 451 [u, v] H fun r H' => Fr H H' ∧ NV D H' r (x + y) := by
  obtain ⟨s, rfl, sc, hs⟩ := hu.box
  obtain ⟨t, rfl, tc, ht⟩ := hv.box
  refine Calls.fn Dt.pr Dt.fn ?_
  have F := (((Fx.start hw hd (ps := [.rd encI 1 s (rdig x.natAbs), .rd encI 1 t (rdig y.natAbs)]) ⟨hs, ht, trivial⟩).bx H.next [s, .bool (bel x)]).bx (H.next + 1) [t, .bool (bel y)]).bx (H.next + 2) [.slc none 0 0 none, .bool false]
  simp [ir451, new_next, Nat.add_assoc, sc, tc]
  obtain ⟨X, hX⟩ : ∃ X, ((H.new [s, .bool (bel x)]).new [t, .bool (bel y)]).new [.slc none 0 0 none, .bool false] = X := ⟨_, rfl⟩
  rw [hX] at F ⊢
  have B2 : Box X H.next H.next _ := F.o.2.2.1
  have B3 : Box X (H.next + 1) (H.next + 1) _ := F.o.2.1
  simp [B2.at 1 rfl, B3.at 1 rfl]
  refine WB.bool ?_ ?_
  · intro hne
    have hne : bel x ≠ bel y := by revert hne; cases bel x <;> cases bel y <;> simp
    refine W_cut (fun e Y => e 2 = .ptr (some (H.next, 0)) ∧ e 3 = .ptr (some (H.next + 1, 0)) ∧ e 4 = .ptr (some (H.next + 2, 0)) ∧ ∃ (x' y' : Int) (s' t' : AV), x' + y' = x + y ∧ y'.natAbs ≤ x'.natAbs ∧ bel x' ≠ bel y' ∧ (rdig x'.natAbs).length < 2 ^ 20 ∧ s'.cell = true ∧ t'.cell = true ∧
      Fx H D [.box (H.next + 2) [.slc none 0 0 none, .bool false], .box (H.next + 1) [t', .bool (bel y')], .box H.next [s', .bool (bel x')]] [.rd encI 1 s' (rdig x'.natAbs), .rd encI 1 t' (rdig y'.natAbs)] Y) ?_ ?_
    · simp [B2.all 2 rfl, B3.all 2 rfl]
      refine WC.of (c475 Dt.d475 F.wf F.dn (x := x) (y := y) ⟨s, rfl, F.p.1⟩ ⟨t, rfl, F.p.2.1⟩ (by omega) (by omega)) ?_
      rintro r X1 ⟨fr, rfl⟩
      have F1 := F.call fr
      have C2 : Box X1 H.next H.next _ := F1.o.2.2.1
      have C3 : Box X1 (H.next + 1) (H.next + 1) _ := F1.o.2.1
      by_cases hlt : x.natAbs < y.natAbs
      · have hc := cmpZ_lt.2 (show (x.natAbs : Int) < y.natAbs by omega)
        obtain ⟨X2, s2, F2⟩ := F1.stA 2 rfl 2 [t, .bool (bel y)] rfl rfl (by simp [tc])
        obtain ⟨X3, s3, F3⟩ := F2.stA 1 rfl 2 [s, .bool (bel x)] rfl rfl (by simp [sc])
        simp [hc, C2.all 2 rfl, C3.all 2 rfl, s2, s3]
        exact ⟨y, x, by omega, by omega, Ne.symm hne, hy, t, tc, s, sc, F3.pbs (qs := [.rd encI 1 t _, .rd encI 1 s _]) ⟨F3.p.2.1, F3.p.1, trivial⟩⟩
      · have hc : ¬ cmpZ (x.natAbs : Int) y.natAbs < 0 := fun h => hlt (by have := cmpZ_lt.1 h; omega)
        simp [hc]
        exact ⟨x, y, rfl, by omega, hne, hx, s, sc, t, tc, F1⟩
    · rintro e Y ⟨h2, h3, h4, x', y', s', t', hsum, hle, hne', hlx, sc', tc', G⟩
      rw [← hsum]
      have C2 : Box Y H.next H.next _ := G.o.2.2.1
      have G1 := G.bx Y.next [.slc none 0 0 none, .bool false]
      obtain ⟨Y1, s1, G2⟩ := G1.stA 0 rfl 2 [.slc none 0 0 none, .bool (bel x')] rfl rfl (by simp)
      obtain ⟨n5, hn5⟩ : ∃ n5, Y.next = n5 := ⟨_, rfl⟩
      rw [hn5] at s1 G2
      have G3 := G2.nil encI 1 0
      obtain ⟨m, hm⟩ : ∃ m, x'.natAbs = m := ⟨_, rfl⟩
      obtain ⟨n, hn⟩ : ∃ n, y'.natAbs = n := ⟨_, rfl⟩
      obtain ⟨L, hL⟩ : ∃ L, (rdig m).length = L := ⟨_, rfl⟩
      rw [hm, hn] at hle
      rw [hm, hL] at hlx
      have mlt : m < 10 ^ L := by rw [← hL, rdig_len]; exact dig_lt m
      have hly : (rdig n).length ≤ L := by rw [← hL, rdig_len, rdig_len]; exact dig_len_mono hle
      have ls' : psem .len [s'] = some (.int .i64 L) := by
        have := (show Rd _ encI 1 Y s' (rdig x'.natAbs) from G.p.1).sl.len
        rw [hm, hL] at this; exact this
      simp [h2, C2.at 1 rfl, psem_bld', fill, splice, hn5, s1]
      refine W_loop (fun (w : Nat) e W => e 2 = .ptr (some (H.next, 0)) ∧ e 3 = .ptr (some (H.next + 1, 0)) ∧ e 4 = .ptr (some (H.next + 2, 0)) ∧ e 5 = .ptr (some (n5, 0)) ∧ ∃ i : Nat, w + i = L ∧ e 7 = .int .i64 i ∧ e 6 = .int .i64 (owed m n i : Nat) ∧ ∃ v f, Fx H D [.own encI 1 v (rfd i (m - n)) f, .box n5 [v, .bool (bel x')], .box (H.next + 2) [.slc none 0 0 none, .bool false], .box (H.next + 1) [t', .bool (bel y')], .box H.next [s', .bool (bel x')]] [.rd encI 1 s' (rdig x'.natAbs), .rd encI 1 t' (rdig y'.natAbs)] W) id L ?_ ?_
      · refine ⟨by simp [h2], by simp [h3], by simp [h4], by simp, 0, by simp, by simp, by simp [owed, Nat.mod_one], .slc none 0 0 none, none, ?_⟩
        rw [rfd_zero0]
        exact G3
      · rintro w e W ⟨h2, h3, h4, h5, i, hi, h7, h6, v, f, K⟩
        have k2 : Box W H.next H.next _ := K.o.2.2.2.2.1
        have k3 : Box W (H.next + 1) (H.next + 1) _ := K.o.2.2.2.1
        have k5 : Box W n5 n5 _ := K.o.2.1
        have ks := (show Rd _ encI 1 W s' (rdig x'.natAbs) from K.p.1)
        have kt := (show Rd _ encI 1 W t' (rdig y'.natAbs) from K.p.2.1)
        rw [hm] at ks
        simp [h2, h7, k2.at 0 rfl, ls']
        refine WB.bool ?_ ?_
        · intro hlt
          simp at hlt
          have d1 : nth (rdig m) (i : Int) = _ := nth_rdig m i
          obtain ⟨dm, hdm⟩ : ∃ dm, m / 10 ^ i % 10 = dm := ⟨_, rfl⟩
          obtain ⟨dn, hdn⟩ : ∃ dn, n / 10 ^ i % 10 = dn := ⟨_, rfl⟩
          obtain ⟨c, hc⟩ : ∃ c, owed m n i = c := ⟨_, rfl⟩
          have b1 : dm < 10 := by rw [← hdm]; exact Nat.mod_lt _ (by decide)
          have b2 : dn < 10 := by rw [← hdn]; exact Nat.mod_lt _ (by decide)
          have b3 : c < 2 := by rw [← hc]; unfold owed; split <;> omega
          obtain ⟨g1, g2⟩ := sub_digit hle i
          rw [hdm, hdn, hc] at g1 g2
          rw [hdm] at d1
          rw [hc] at h6
          have q1 : IntKind.i64.wrap ((dm : Int) - dn) = (dm : Int) - dn := wrap_small (by omega) (by omega)
          have q2 : IntKind.i64.wrap ((dm : Int) - dn - c) = (dm : Int) - dn - c := wrap_small (by omega) (by omega)
          have q3 : IntKind.i64.wrap ((dm : Int) - dn - c + 10) = (dm : Int) - dn - c + 10 := wrap_small (by omega) (by omega)
          have q4 : IntKind.i64.wrap ((i : Int) + 1) = (i : Int) + 1 := wrap_small (by omega) (by omega)
          have ia : psem (.ia 1) [s', .int .i64 (i : Int)] = some (elt s' 1 (i : Int)) := ks.sl.ia (by omega) (by rw [hL]; omega)
          have ld : rsem (.ld 1 false) [elt s' 1 (i : Int)] W = some (.int .i64 (dm : Int)) := by rw [ks.sl.ld (by omega) (by rw [hL]; omega), d1]
          simp only [W_skip, Wk_seq, W_seq, W_block]
          refine W_floats ?_
          simp only [WT_cons, WT_nil]
          simp [-Wk_seq, h2, h3, h6, h7, k2.at 0 rfl, ia, ld, k3.all 2 rfl]
          refine WC.of (c489 Dt.d489 K.wf K.dn (x := y') (i := i) ⟨t', rfl, K.p.2.1⟩ (by rw [hn]; omega) (by omega)) ?_
          rintro r W1 ⟨fr1, rfl⟩
          rw [hn, hdn]
          have K1 := K.call fr1
          have k21 : Box W1 H.next H.next _ := K1.o.2.2.2.2.1
          have k51 : Box W1 n5 n5 _ := K1.o.2.1
          have ks1 := (show Rd _ encI 1 W1 s' (rdig x'.natAbs) from K1.p.1)
          rw [hm] at ks1
          have ld1 : rsem (.ld 1 false) [elt s' 1 (i : Int)] W1 = some (.int .i64 (dm : Int)) := by rw [ks1.sl.ld (by omega) (by rw [hL]; omega), d1]
          simp [-Wk_seq, h6, q1, q2]
          simp [-Wk_seq, floatOk, wanted, AV.same_refl, h2, h7, k2.at 0 rfl, k21.at 0 rfl, ia, ld, ld1]
          rw [Wk_seq]
          by_cases hb : dm < dn + c
          · rw [if_pos hb] at g1 g2
            have hneg : (dm : Int) - dn - c < 0 := by omega
            have ev : (dm : Int) - dn - c + 10 = ((dm + 10 - (dn + c) : Nat) : Int) := by omega
            rw [ev] at q3
            obtain ⟨z, hz⟩ : ∃ z, dm + 10 - (dn + c) = z := ⟨_, rfl⟩
            rw [hz] at q3 g1 ev
            obtain ⟨v', W2, f', p1, pc, K2⟩ := K1.push 0 rfl 8 ((z : Nat) : Int) (by rw [rfd_len]; omega) (by rw [rfd_len]; omega)
            obtain ⟨W3, u3, K3⟩ := K2.st1 1 rfl 0 v' pc (by simp)
            simp [hneg, ev, q3, h5, k51.at 0 rfl, wsem0_bsl1 (v := .int .i64 (z : Int)) rfl, p1, u3, h2, h3, h4, h7, q4]
            refine ⟨w - 1, by omega, i + 1, by omega, by simp, by rw [g2]; rfl, v', f', ?_⟩
            rw [rfd_succ, ← g1]
            rw [hn] at K3
            exact K3
          · rw [if_neg hb] at g1 g2
            have hneg : ¬ (dm : Int) - dn - c < 0 := by omega
            have ev : (dm : Int) - dn - c = ((dm - (dn + c) : Nat) : Int) := by omega
            obtain ⟨z, hz⟩ : ∃ z, dm - (dn + c) = z := ⟨_, rfl⟩
            rw [hz] at ev g1
            rw [ev] at hneg
            obtain ⟨v', W2, f', p1, pc, K2⟩ := K1.push 0 rfl 8 ((z : Nat) : Int) (by rw [rfd_len]; omega) (by rw [rfd_len]; omega)
            obtain ⟨W3, u3, K3⟩ := K2.st1 1 rfl 0 v' pc (by simp)
            simp [ev, hneg, h5, k51.at 0 rfl, wsem0_bsl1 (v := .int .i64 (z : Int)) rfl, p1, u3, h2, h3, h4, h7, q4]
            refine ⟨w - 1, by omega, i + 1, by omega, by simp, by rw [g2]; rfl, v', f', ?_⟩
            rw [rfd_succ, ← g1]
            rw [hn] at K3
            exact K3
        · intro hge
          simp at hge
          have : i = L := by omega
          subst this
          have K1 := K.read
          have kv : Rd _ encI 1 W v (rfd i (m - n)) := K1.p.1
          simp [h5, k5.all 2 rfl]
          refine WC.of (c453 Dt.d453 K1.wf K1.dn kv (by rw [rfd_len]; omega)) ?_
          rintro r W1 ⟨fr1, s6, rfl, hs6⟩
          rw [rtrim_rfd (show m - n < 10 ^ i by omega)] at hs6 ⊢
          rw [bel_sgn_rd]
          have K2 := K1.callR fr1 (qs := [.rd encI 1 s6 _]) ⟨hs6, trivial⟩
          obtain ⟨W2, u2, K3⟩ := K2.stA 1 rfl 2 [s6, .bool (bel (sgn (bel x') (m - n)))] rfl rfl (by simp [hs6.sl.form.1])
          have B : Box W2 (H.next + 2) (H.next + 2) _ := K3.o.2.1
          simp [h4, u2, ares_cellA (hb := B)]
          refine ⟨K3.end.1, ?_⟩
          have e1 : sgn (bel x') (m - n) = x' + y' := by
            unfold sgn
            unfold bel at hne' ⊢
            by_cases h1 : x' < 0 <;> by_cases h2 : y' < 0 <;> simp [h1, h2] at hne' ⊢ <;> omega
          refine NV.to (z := sgn (bel x') (m - n)) ⟨s6, rfl, ?_⟩ e1
          rw [sgn_abs]
          exact K3.end.2.1
  · intro heq
    have heq : bel x = bel y := by revert heq; cases bel x <;> cases bel y <;> simp
    obtain ⟨m, hm⟩ : ∃ m, x.natAbs = m := ⟨_, rfl⟩
    obtain ⟨n, hn⟩ : ∃ n, y.natAbs = n := ⟨_, rfl⟩
    obtain ⟨la, hla⟩ : ∃ la, (rdig m).length = la := ⟨_, rfl⟩
    obtain ⟨lb, hlb⟩ : ∃ lb, (rdig n).length = lb := ⟨_, rfl⟩
    obtain ⟨M, hM⟩ : ∃ M, max la lb = M := ⟨_, rfl⟩
    rw [hm, hla] at hx
    rw [hn, hlb] at hy
    have mlt : m < 10 ^ M := by
      refine Nat.lt_of_lt_of_le (dig_lt m) (Nat.pow_le_pow_right (by decide) ?_)
      rw [← rdig_len]; omega
    have nlt : n < 10 ^ M := by
      refine Nat.lt_of_lt_of_le (dig_lt n) (Nat.pow_le_pow_right (by decide) ?_)
      rw [← rdig_len]; omega
    have G1 := F.bx X.next [.slc none 0 0 none, .bool false]
    obtain ⟨Y1, s1, G2⟩ := G1.stA 0 rfl 2 [.slc none 0 0 none, .bool (bel x)] rfl rfl (by simp)
    obtain ⟨n5, hn5⟩ : ∃ n5, X.next = n5 := ⟨_, rfl⟩
    rw [hn5] at s1 G2
    have G3 := G2.nil encI 1 0
    have ls : psem .len [s] = some (.int .i64 la) := by
      have := hs.sl.len
      rw [hm, hla] at this; exact this
    have lt : psem .len [t] = some (.int .i64 lb) := by
      have := ht.sl.len
      rw [hn, hlb] at this; exact this
    have mx : max (la : Int) lb = (M : Int) := by omega
    simp [B2.at 1 rfl, psem_bld', fill, splice, hn5, s1]
    refine W_loop (fun (w : Nat) e W => e 2 = .ptr (some (H.next, 0)) ∧ e 3 = .ptr (some (H.next + 1, 0)) ∧ e 4 = .ptr (some (H.next + 2, 0)) ∧ e 9 = .ptr (some (n5, 0)) ∧ ∃ i : Nat, w + i = M + 2 ∧ i ≤ M + 1 ∧ e 11 = .int .i64 i ∧ e 10 = .int .i64 ((m % 10 ^ i + n % 10 ^ i) / 10 ^ i : Nat) ∧ ∃ v f, Fx H D [.own encI 1 v (rfd i (m + n)) f, .box n5 [v, .bool (bel x)], .box (H.next + 2) [.slc none 0 0 none, .bool false], .box (H.next + 1) [t, .bool (bel y)], .box H.next [s, .bool (bel x)]] [.rd encI 1 s (rdig x.natAbs), .rd encI 1 t (rdig y.natAbs)] W) id (M + 2) ?_ ?_
    · refine ⟨by simp, by simp, by simp, by simp, 0, by simp, by omega, by simp, by simp [Nat.mod_one], .slc none 0 0 none, none, ?_⟩
      rw [rfd_zero0]
      exact G3
    · rintro w e W ⟨h2, h3, h4, h9, i, hi, hiM, h11, h10, v, f, K⟩
      have k2 : Box W H.next H.next _ := K.o.2.2.2.2.1
      have k3 : Box W (H.next + 1) (H.next + 1) _ := K.o.2.2.2.1
      have k5 : Box W n5 n5 _ := K.o.2.1
      obtain ⟨dm, hdm⟩ : ∃ dm, m / 10 ^ i % 10 = dm := ⟨_, rfl⟩
      obtain ⟨dn, hdn⟩ : ∃ dn, n / 10 ^ i % 10 = dn := ⟨_, rfl⟩
      obtain ⟨c, hc⟩ : ∃ c, (m % 10 ^ i + n % 10 ^ i) / 10 ^ i = c := ⟨_, rfl⟩
      have hp : 0 < 10 ^ i := Nat.pow_pos (by decide)
      have b1 : dm < 10 := by rw [← hdm]; exact Nat.mod_lt _ (by decide)
      have b2 : dn < 10 := by rw [← hdn]; exact Nat.mod_lt _ (by decide)
      have b3 : c < 2 := by rw [← hc, Nat.div_lt_iff_lt_mul hp]; have := Nat.mod_lt m hp; have := Nat.mod_lt n hp; omega
      obtain ⟨g1, g2⟩ := add_digit m n i
      rw [hdm, hdn, hc] at g1 g2
      rw [hc] at h10
      by_cases hgo : i < M ∨ 0 < c
      · have hiM2 : i ≤ M := by
          apply Classical.byContradiction
          intro hn2
          have : i = M + 1 := by omega
          subst this
          have hp1 : 10 ^ (M + 1) = 10 ^ M * 10 := Nat.pow_succ 10 M
          rw [Nat.mod_eq_of_lt (by omega), Nat.mod_eq_of_lt (by omega), Nat.div_eq_of_lt (by omega)] at hc
          omega
        have q1 : IntKind.i64.wrap ((dm : Int) + dn) = (dm : Int) + dn := wrap_small (by omega) (by omega)
        obtain ⟨sum, hsum⟩ : ∃ sum, dm + dn + c = sum := ⟨_, rfl⟩
        obtain ⟨d, hd⟩ : ∃ d, sum % 10 = d := ⟨_, rfl⟩
        obtain ⟨z, hz⟩ : ∃ z, sum / 10 = z := ⟨_, rfl⟩
        rw [hsum] at g1 g2
        rw [hd] at g1
        rw [hz] at g2
        have q2 : IntKind.i64.wrap ((dm : Int) + dn + c) = (sum : Int) := by rw [wrap_small (by omega) (by omega)]; omega
        have q3 : (sum : Int).tmod 10 = (d : Int) := by rw [← hd]; rfl
        have q4 : IntKind.i64.wrap ((sum : Int).tdiv 10) = (z : Int) := by rw [show (sum : Int).tdiv 10 = ((sum / 10 : Nat) : Int) from rfl, hz, wrap_small (by omega) (by omega)]
        have q5 : IntKind.i64.wrap ((sum : Int) / 10) = (z : Int) := by rw [show (sum : Int) / 10 = ((sum / 10 : Nat) : Int) by omega, hz, wrap_small (by omega) (by omega)]
        have q6 : IntKind.i64.wrap ((i : Int) + 1) = (i : Int) + 1 := wrap_small (by omega) (by omega)
        refine W_cut (fun e' W' => W' = W ∧ e' 2 = .ptr (some (H.next, 0)) ∧ e' 3 = .ptr (some (H.next + 1, 0)) ∧ e' 4 = .ptr (some (H.next + 2, 0)) ∧ e' 9 = .ptr (some (n5, 0)) ∧ e' 11 = .int .i64 i ∧ e' 10 = .int .i64 c) ?_ ?_
        · by_cases hi1 : i < M
          · have hi1' : (i : Int) < (M : Int) := by omega
            simp [h2, h3, h4, h9, h10, h11, k2.at 0 rfl, k3.at 0 rfl, ls, lt, mx, hi1, hi1']
          · have hi1' : ¬ (i : Int) < (M : Int) := by omega
            have hc1 : 0 < c := hgo.resolve_left hi1
            have hc1' : (0 : Int) < (c : Int) := by omega
            simp [h2, h3, h4, h9, h10, h11, k2.at 0 rfl, k3.at 0 rfl, ls, lt, mx, hi1, hi1', hc1, hc1']
        · rintro e W' ⟨rfl, h2, h3, h4, h9, h11, h10⟩
          simp only [W_seq, W_block]
          refine W_floats ?_
          simp only [WT_cons, WT_nil]
          simp [-Wk_seq, h2, h11, k2.all 2 rfl]
          refine WC.of (c489 Dt.d489 K.wf K.dn (x := x) (i := i) ⟨s, rfl, K.p.1⟩ (by rw [hm]; omega) (by omega)) ?_
          rintro r W1 ⟨fr1, rfl⟩
          rw [hm, hdm]
          have K1 := K.call fr1
          have k31 : Box W1 (H.next + 1) (H.next + 1) _ := K1.o.2.2.2.1
          simp [-Wk_seq, h3, h11, k31.all 2 rfl]
          refine WC.of (c489 Dt.d489 K1.wf K1.dn (x := y) (i := i) ⟨t, rfl, K1.p.2.1⟩ (by rw [hn]; omega) (by omega)) ?_
          rintro r W2 ⟨fr2, rfl⟩
          rw [hn, hdn]
          have K2 := K1.call fr2
          have k52 : Box W2 n5 n5 _ := K2.o.2.1
          obtain ⟨v', W3, f', p1, pc, K3⟩ := K2.push 0 rfl 8 ((d : Nat) : Int) (by rw [rfd_len]; omega) (by rw [rfd_len]; omega)
          obtain ⟨W4, u4, K4⟩ := K3.st1 1 rfl 0 v' pc (by simp)
          simp [-Wk_seq, h10, q1, q2]
          simp [-Wk_seq, floatOk, wanted, AV.same_refl, h3, k3.all 2 rfl, k31.all 2 rfl]
          rw [Wk_seq]
          simp [h9, k52.at 0 rfl, q3, q4, q5, wsem0_bsl1 (v := .int .i64 (d : Int)) rfl, p1, u4, h2, h3, h4, h11, q6]
          refine ⟨w - 1, by omega, i + 1, by omega, by omega, by simp, ?_, v', f', ?_⟩
          · exact_mod_cast g2
          · rw [rfd_succ, ← g1]
            rw [hm, hn] at K4
            exact K4
      · have hi1 : ¬ i < M := fun h => hgo (.inl h)
        have hc0 : ¬ 0 < c := fun h => hgo (.inr h)
        have hi1' : ¬ (i : Int) < (M : Int) := by omega
        have hc0' : ¬ (0 : Int) < (c : Int) := by omega
        have mlt' : m < 10 ^ i := Nat.lt_of_lt_of_le mlt (Nat.pow_le_pow_right (by decide) (by omega))
        have nlt' : n < 10 ^ i := Nat.lt_of_lt_of_le nlt (Nat.pow_le_pow_right (by decide) (by omega))
        have sumlt : m + n < 10 ^ i := by
          rw [Nat.mod_eq_of_lt mlt', Nat.mod_eq_of_lt nlt'] at hc
          apply Classical.byContradiction
          intro hn2
          have := Nat.div_pos (show 10 ^ i ≤ m + n by omega) hp
          omega
        have K1 := K.read
        have kv : Rd _ encI 1 W v (rfd i (m + n)) := K1.p.1
        simp [h2, h3, h4, h9, h10, h11, k2.at 0 rfl, k3.at 0 rfl, ls, lt, mx, hi1, hi1', hc0, hc0', k5.all 2 rfl]
        refine WC.of (c453 Dt.d453 K1.wf K1.dn kv (by rw [rfd_len]; omega)) ?_
        rintro r W1 ⟨fr1, s6, rfl, hs6⟩
        rw [rtrim_rfd sumlt] at hs6 ⊢
        rw [bel_sgn_rd]
        have K2 := K1.callR fr1 (qs := [.rd encI 1 s6 _]) ⟨hs6, trivial⟩
        obtain ⟨W2, u2, K3⟩ := K2.stA 1 rfl 2 [s6, .bool (bel (sgn (bel x) (m + n)))] rfl rfl (by simp [hs6.sl.form.1])
        have B : Box W2 (H.next + 2) (H.next + 2) _ := K3.o.2.1
        simp [h4, u2, ares_cellA (hb := B)]
        refine ⟨K3.end.1, ?_⟩
        have e1 : sgn (bel x) (m + n) = x + y := by
          unfold sgn
          unfold bel at heq ⊢
          by_cases h1 : x < 0 <;> by_cases h2 : y < 0 <;> simp [h1, h2] at heq ⊢ <;> omega
        refine NV.to (z := sgn (bel x) (m + n)) ⟨s6, rfl, ?_⟩ e1
        rw [sgn_abs]
        exact K3.end.2.1
theorem c476 (Dt : D476 T) {D : Nat → Prop} {H : AHeap} (hw : WF H) (hd : ∀ g, D g → g < H.next) {u v : AV} {x y : Int} (hu : NV D H u x) (hv : NV D H v y) (hx : (rdig x.natAbs).length < 2 ^ 20) (hy : (rdig y.natAbs).length < 2 ^ 20) :
    Calls T 476 [u, v] H fun r H' => Fr H H' ∧ NV D H' r (x - y) := by
  obtain ⟨s, rfl, sc, hs⟩ := hu.box
  obtain ⟨t, rfl, tc, ht⟩ := hv.box
  refine Calls.fn Dt.pr Dt.fn ?_
  have F := (((Fx.start hw hd (ps := [.rd encI 1 s (rdig x.natAbs), .rd encI 1 t (rdig y.natAbs)]) ⟨hs, ht, trivial⟩).bx H.next [s, .bool (bel x)]).bx (H.next + 1) [t, .bool (bel y)]).bx (H.next + 2) [.slc none 0 0 none, .bool false]
  simp [ir476, new_next, Nat.add_assoc, sc, tc]
  obtain ⟨X, hX⟩ : ∃ X, ((H.new [s, .bool (bel x)]).new [t, .bool (bel y)]).new [.slc none 0 0 none, .bool false] = X := ⟨_, rfl⟩
  rw [hX] at F ⊢
  have B2 : Box X H.next H.next _ := F.o.2.2.1
  have B3 : Box X (H.next + 1) (H.next + 1) _ := F.o.2.1
  refine W_floats ?_
  simp only [WT_cons, WT_nil]
  simp [B2.all 2 rfl, B3.all 2 rfl]
  refine WC.of (c485 Dt.d485 F.wf F.dn ⟨t, rfl, F.p.2.1⟩) ?_
  rintro r X1 ⟨fr1, m1⟩
  have F1 := F.callR fr1 (qs := [.nv r _]) ⟨m1, trivial⟩
  simp
  refine WC.of (c451 Dt.d451 F1.wf F1.dn ⟨s, rfl, F1.p.2.1⟩ F1.p.1 hx (by rw [Int.natAbs_neg]; exact hy)) ?_
  rintro r3 X2 ⟨fr3, h3⟩
  obtain ⟨s3, rfl, c3, hs3⟩ := (h3.to (z' := x - y) (by omega)).box
  have F2 := F1.callR fr3 (qs := [.rd encI 1 s3 _]) ⟨hs3, trivial⟩
  obtain ⟨X4, s4, F4⟩ := F2.stA 0 rfl 2 [s3, .bool (bel (x - y))] rfl rfl (by simp [c3])
  have B1' : Box X1 H.next H.next _ := F1.o.2.2.1
  have B : Box X4 (H.next + 2) (H.next + 2) _ := F4.o.1
  simp [s4]
  simp [floatOk, wanted, AV.same_refl, B2.all 2 rfl, B1'.all 2 rfl, ares_cellA (hb := B)]
  exact ⟨F4.end.1, s3, rfl, F4.end.2.1⟩
end Go.Am

/- Contracts of the reference's numbers: products. -/
set_option linter.unusedVariables false
set_option linter.unusedSimpArgs false
namespace Go.Am
variable {T : Tab}
/-- What columns are worth, the lowest one first. -/
def VL : List Nat → Nat
  | [] => 0
  | d :: l => d + 10 * VL l
theorem VL_zero (n : Nat) : VL (List.replicate n 0) = 0 := by
  induction n with
  | zero => rfl
  | succ n ih => rw [List.replicate_succ]; simp [VL, ih]
theorem VL_set : ∀ (l : List Nat) (p x : Nat), p < l.length → VL (l.set p (l.getD p 0 + x)) = VL l + x * 10 ^ p
  | [], p, x, h => by simp at h
  | d :: l, 0, x, h => by simp [VL]; omega
  | d :: l, p + 1, x, h => by
    have := VL_set l p x (by simpa using h)
    simp only [List.set_cons_succ, List.getD_cons_succ, VL]
    have e : x * 10 ^ (p + 1) = 10 * (x * 10 ^ p) := by rw [Nat.pow_succ, ← Nat.mul_assoc, Nat.mul_comm]
    rw [this, e]
    omega
theorem rfd_cons (L n : Nat) : rfd (L + 1) n = ((n % 10 : Nat) : Int) :: rfd L (n / 10) := by
  unfold rfd; rw [fd_succ]; simp
theorem VL_digits : ∀ (l : List Nat), (∀ x ∈ l, x < 10) → zs l = rfd l.length (VL l)
  | [], _ => by simp [zs, rfd, fd]
  | d :: l, h => by
    have hd := h d (by simp)
    have := VL_digits l fun x hx => h x (by simp [hx])
    rw [List.length_cons, rfd_cons]
    simp only [VL]
    rw [show (d + 10 * VL l) % 10 = d by omega, show (d + 10 * VL l) / 10 = VL l by omega, ← this]
    rfl
theorem VL_ge : ∀ (l : List Nat) (p : Nat), p < l.length → l.getD p 0 * 10 ^ p ≤ VL l
  | [], p, h => by simp at h
  | d :: l, 0, h => by simp [VL]
  | d :: l, p + 1, h => by
    have := VL_ge l p (by simpa using h)
    simp only [List.getD_cons_succ, VL, Nat.pow_succ]
    have e : l.getD p 0 * (10 ^ p * 10) = 10 * (l.getD p 0 * 10 ^ p) := by rw [← Nat.mul_assoc, Nat.mul_comm]
    omega
/-- The carry of a column goes to the next one. -/
theorem VL_carry (l : List Nat) (p : Nat) (h : p + 1 < l.length) : VL ((l.set (p + 1) (l.getD (p + 1) 0 + l.getD p 0 / 10)).set p (l.getD p 0 % 10)) = VL l := by
  have h1 := VL_set l (p + 1) (l.getD p 0 / 10) h
  obtain ⟨m, hm⟩ : ∃ m, l.set (p + 1) (l.getD (p + 1) 0 + l.getD p 0 / 10) = m := ⟨_, rfl⟩
  rw [hm] at h1 ⊢
  have hml : m.length = l.length := by rw [← hm]; simp
  have hmp : m.getD p 0 = l.getD p 0 := by rw [← hm, getD_set (by omega), if_neg (by omega)]
  have h2 := VL_set (m.set p (l.getD p 0 % 10)) p (10 * (l.getD p 0 / 10)) (by simp; omega)
  have e1 : (m.set p (l.getD p 0 % 10)).getD p 0 = l.getD p 0 % 10 := by rw [getD_set (by omega), if_pos rfl]
  rw [e1, List.set_set] at h2
  have e2 : l.getD p 0 % 10 + 10 * (l.getD p 0 / 10) = m.getD p 0 := by rw [hmp]; omega
  have e3 : m.set p (m.getD p 0) = m := by
    apply List.ext_getElem
    · simp
    · intro i a1 a2
      rw [List.getElem_set]
      split
      · rename_i e; subst e
        simp [List.getD_eq_getElem?_getD, List.getElem?_eq_getElem a2]
      · rfl
  rw [e2, e3, h1, Nat.pow_succ] at h2
  have e4 : 10 * (l.getD p 0 / 10) * 10 ^ p = l.getD p 0 / 10 * (10 ^ p * 10) := by
    rw [Nat.mul_comm 10, Nat.mul_assoc, Nat.mul_comm 10]
  rw [e4] at h2
  omega
def colv (m n i k : Nat) : Nat := m % 10 ^ i * n + m / 10 ^ i % 10 * 10 ^ i * (n % 10 ^ k)
theorem colv_step (m n i k : Nat) : colv m n i (k + 1) = colv m n i k + m / 10 ^ i % 10 * (n / 10 ^ k % 10) * 10 ^ (i + k) := by
  unfold colv
  have t := Nat.mod_pow_succ (x := n) (b := 10) (k := k)
  rw [t, Nat.mul_add, Nat.pow_add]
  have : m / 10 ^ i % 10 * 10 ^ i * (10 ^ k * (n / 10 ^ k % 10)) = m / 10 ^ i % 10 * (n / 10 ^ k % 10) * (10 ^ i * 10 ^ k) := by
    simp only [Nat.mul_assoc, Nat.mul_left_comm, Nat.mul_comm]
  rw [this]; omega
theorem colv_row {m n i k : Nat} (h : n < 10 ^ k) : colv m n i k = m % 10 ^ (i + 1) * n := by
  unfold colv
  have t := Nat.mod_pow_succ (x := m) (b := 10) (k := i)
  rw [Nat.mod_eq_of_lt h, t, Nat.add_mul]
  congr 1
  rw [Nat.mul_comm (10 ^ i)]
theorem colv_new (m n i : Nat) : colv m n i 0 = m % 10 ^ i * n := by simp [colv, Nat.mod_one]
theorem c452 (Dt : D452 T) {D : Nat → Prop} {H : AHeap} (hw : WF H) (hd : ∀ g, D g → g < H.next) {u v : AV} {x y : Int} (hu : NV D H u x) (hv : NV D H v y) (hx : (rdig x.natAbs).length < 2 ^ 20) (hy : (rdig y.natAbs).length < 2 ^ 20) :
    Calls T 452 [u, v] H fun r H' => Fr H H' ∧ NV D H' r (x * y) := by
  obtain ⟨s, rfl, sc, hs⟩ := hu.box
  obtain ⟨t, rfl, tc, ht⟩ := hv.box
  refine Calls.fn Dt.pr Dt.fn ?_
  have F := (((Fx.start hw hd (ps := [.rd encI 1 s (rdig x.natAbs), .rd encI 1 t (rdig y.natAbs)]) ⟨hs, ht, trivial⟩).bx H.next [s, .bool (bel x)]).bx (H.next + 1) [t, .bool (bel y)]).bx (H.next + 2) [.slc none 0 0 none, .bool false]
  obtain ⟨m, hm⟩ : ∃ m, x.natAbs = m := ⟨_, rfl⟩
  obtain ⟨n, hn⟩ : ∃ n, y.natAbs = n := ⟨_, rfl⟩
  obtain ⟨la, hla⟩ : ∃ la, (rdig m).length = la := ⟨_, rfl⟩
  obtain ⟨lb, hlb⟩ : ∃ lb, (rdig n).length = lb := ⟨_, rfl⟩
  obtain ⟨L, hL⟩ : ∃ L, la + lb + 1 = L := ⟨_, rfl⟩
  rw [hm, hla] at hx
  rw [hn, hlb] at hy
  have mlt : m < 10 ^ la := by rw [← hla, rdig_len]; exact dig_lt m
  have nlt : n < 10 ^ lb := by rw [← hlb, rdig_len]; exact dig_lt n
  have hprod : la * lb ≤ 2 ^ 40 := Nat.le_trans (Nat.mul_le_mul (Nat.le_of_lt hx) (Nat.le_of_lt hy)) (by decide)
  have ls : psem .len [s] = some (.int .i64 la) := by have := hs.sl.len; rw [hm, hla] at this; exact this
  have lt : psem .len [t] = some (.int .i64 lb) := by have := ht.sl.len; rw [hn, hlb] at this; exact this
  simp [ir452, new_next, Nat.add_assoc, sc, tc]
  obtain ⟨X, hX⟩ : ∃ X, ((H.new [s, .bool (bel x)]).new [t, .bool (bel y)]).new [.slc none 0 0 none, .bool false] = X := ⟨_, rfl⟩
  rw [hX] at F ⊢
  have B2 : Box X H.next H.next _ := F.o.2.2.1
  have B3 : Box X (H.next + 1) (H.next + 1) _ := F.o.2.1
  have e1 : IntKind.i64.wrap ((la : Int) + lb) = (la : Int) + lb := wrap_small (by omega) (by omega)
  have e2 : IntKind.i64.wrap ((la : Int) + lb + 1) = (L : Int) := by rw [wrap_small (by omega) (by omega)]; omega
  obtain ⟨mk1, mk2⟩ := mk0 F.wf (n := L) (by omega)
  simp [B2.at 0 rfl, B3.at 0 rfl, ls, lt, e1, e2, mk1]
  obtain ⟨vs, hvs⟩ : ∃ vs, AV.slc (some (X.next, 0)) 1 L (some L) = vs := ⟨_, rfl⟩
  rw [hvs] at mk2 ⊢
  obtain ⟨f, hf⟩ : ∃ f, X.next = f := ⟨_, rfl⟩
  have F1 := F.mkO F.wf.new F.wf.keeps_new (.own encI 1 vs (List.replicate L 0) (some X.next)) (by simp) (by simp) mk2
  rw [hf] at F1
  rw [← zs_zero L] at F1
  have hsl : ∀ {Y : AHeap} {S : List Nat}, Own encI 1 Y vs (zs S) (some f) → psem .len [vs] = some (.int .i64 S.length) := fun h => by rw [h.1.len, zs_len]
  have lvs : psem .len [vs] = some (.int .i64 L) := by rw [hsl F1.o.1]; simp
  refine W_loop (fun (w : Nat) e Y => e 2 = .ptr (some (H.next, 0)) ∧ e 3 = .ptr (some (H.next + 1, 0)) ∧ e 4 = .ptr (some (H.next + 2, 0)) ∧ e 5 = vs ∧ ∃ i : Nat, w + i = la ∧ e 6 = .int .i64 i ∧ ∃ S : List Nat, S.length = L ∧ VL S = m % 10 ^ i * n ∧ (∀ p, S.getD p 0 ≤ 81 * (i * lb)) ∧
    Fx H D [.own encI 1 vs (zs S) (some f), .box (H.next + 2) [.slc none 0 0 none, .bool false], .box (H.next + 1) [t, .bool (bel y)], .box H.next [s, .bool (bel x)]] [.rd encI 1 s (rdig x.natAbs), .rd encI 1 t (rdig y.natAbs)] Y) id la ?_ ?_
  · refine ⟨by simp, by simp, by simp, by simp, 0, by simp, by simp, List.replicate L 0, by simp, by rw [VL_zero]; simp [Nat.mod_one], fun p => ?_, F1⟩
    rw [List.getD_eq_getElem?_getD, List.getElem?_replicate]; split <;> simp
  · rintro w e Y ⟨h2, h3, h4, h5, i, hi, h6, S, hS, hV, hB, G⟩
    have k2 : Box Y H.next H.next _ := G.o.2.2.2.1
    simp [h2, h6, k2.at 0 rfl, ls]
    refine WB.bool ?_ ?_
    · intro hlt
      simp at hlt
      obtain ⟨a, ha⟩ : ∃ a, m / 10 ^ i % 10 = a := ⟨_, rfl⟩
      have d1 : nth (rdig m) (i : Int) = (a : Int) := by rw [nth_rdig, ha]
      have a10 : a < 10 := by rw [← ha]; exact Nat.mod_lt _ (by decide)
      simp
      refine W_loop (fun (w2 : Nat) e Y => e 2 = .ptr (some (H.next, 0)) ∧ e 3 = .ptr (some (H.next + 1, 0)) ∧ e 4 = .ptr (some (H.next + 2, 0)) ∧ e 5 = vs ∧ e 6 = .int .i64 i ∧ ∃ k : Nat, w2 + k = lb ∧ e 7 = .int .i64 k ∧ ∃ S : List Nat, S.length = L ∧ VL S = colv m n i k ∧ (∀ p, S.getD p 0 ≤ 81 * (i * lb + k)) ∧
        Fx H D [.own encI 1 vs (zs S) (some f), .box (H.next + 2) [.slc none 0 0 none, .bool false], .box (H.next + 1) [t, .bool (bel y)], .box H.next [s, .bool (bel x)]] [.rd encI 1 s (rdig x.natAbs), .rd encI 1 t (rdig y.natAbs)] Y) id lb ?_ ?_
      · exact ⟨by simp [h2], by simp [h3], by simp [h4], by simp [h5], by simp [h6], 0, by simp, by simp, S, hS, by rw [colv_new, hV], by simpa using hB, G⟩
      · rintro w2 e Y ⟨h2, h3, h4, h5, h6, k, hk, h7, S, hS, hV, hB, G⟩
        have k2 : Box Y H.next H.next _ := G.o.2.2.2.1
        have k3 : Box Y (H.next + 1) (H.next + 1) _ := G.o.2.2.1
        simp [h3, h7, k3.at 0 rfl, lt]
        refine WB.bool ?_ ?_
        · intro hklt
          simp at hklt
          obtain ⟨b, hb⟩ : ∃ b, n / 10 ^ k % 10 = b := ⟨_, rfl⟩
          have d2 : nth (rdig n) (k : Int) = (b : Int) := by rw [nth_rdig, hb]
          have b10 : b < 10 := by rw [← hb]; exact Nat.mod_lt _ (by decide)
          have ks := (show Rd _ encI 1 Y s (rdig x.natAbs) from G.p.1)
          have kt := (show Rd _ encI 1 Y t (rdig y.natAbs) from G.p.2.1)
          rw [hm] at ks
          rw [hn] at kt
          have hown : Own encI 1 Y vs (zs S) (some f) := G.o.1
          have eik : IntKind.i64.wrap ((i : Int) + k) = ((i + k : Nat) : Int) := by rw [wrap_small (by omega) (by omega)]; omega
          have ia0 : psem (.ia 1) [vs, .int .i64 ((i + k : Nat) : Int)] = some (elt vs 1 ((i + k : Nat) : Int)) := hown.1.ia (by omega) (by rw [zs_len]; omega)
          have ld0 : rsem (.ld 1 false) [elt vs 1 ((i + k : Nat) : Int)] Y = some (.int .i64 ((S.getD (i + k) 0 : Nat) : Int)) := by rw [hown.1.ld (by omega) (by rw [zs_len]; omega), nth_zs]
          have ia1 : psem (.ia 1) [s, .int .i64 (i : Int)] = some (elt s 1 (i : Int)) := ks.sl.ia (by omega) (by rw [hla]; omega)
          have ld1 : rsem (.ld 1 false) [elt s 1 (i : Int)] Y = some (.int .i64 (a : Int)) := by rw [ks.sl.ld (by omega) (by rw [hla]; omega), d1]
          have ia2 : psem (.ia 1) [t, .int .i64 (k : Int)] = some (elt t 1 (k : Int)) := kt.sl.ia (by omega) (by rw [hlb]; omega)
          have ld2 : rsem (.ld 1 false) [elt t 1 (k : Int)] Y = some (.int .i64 (b : Int)) := by rw [kt.sl.ld (by omega) (by rw [hlb]; omega), d2]
          have hab : a * b ≤ 81 := Nat.le_trans (Nat.mul_le_mul (show a ≤ 9 by omega) (show b ≤ 9 by omega)) (by decide)
          have hilb : i * lb + k ≤ la * lb := by
            have := Nat.mul_le_mul_right lb (show i + 1 ≤ la by omega)
            rw [Nat.add_mul, Nat.one_mul] at this
            omega
          have hBp := hB (i + k)
          obtain ⟨c0, hc0⟩ : ∃ c0, S.getD (i + k) 0 = c0 := ⟨_, rfl⟩
          rw [hc0] at ld0 hBp
          obtain ⟨ab, hab'⟩ : ∃ ab, a * b = ab := ⟨_, rfl⟩
          have m1 : IntKind.i64.wrap ((a : Int) * b) = (ab : Int) := by rw [← Int.natCast_mul, hab']; exact wrap_small (by omega) (by omega)
          have m2 : IntKind.i64.wrap ((c0 : Int) + ab) = ((c0 + ab : Nat) : Int) := by rw [wrap_small (by omega) (by omega)]; omega
          obtain ⟨Y2, s1, s2, s3, s4, s5⟩ := hown.st1 G.wf (i := ((i + k : Nat) : Int)) (by omega) (by rw [zs_len]; omega) ((c0 + ab : Nat) : Int)
          rw [Int.toNat_natCast, zs_set] at s3
          have G2 := G.at 0 rfl (.own encI 1 vs (zs (S.set (i + k) (c0 + ab))) (some f)) rfl s2 (s4.mono fun g hg => by simpa using hg.symm) s3
          have q6 : IntKind.i64.wrap ((k : Int) + 1) = (k : Int) + 1 := wrap_small (by omega) (by omega)
          simp [-Int.natCast_add, h2, h3, h5, h6, h7, k2.at 0 rfl, k3.at 0 rfl, eik, ia0, ld0, ia1, ld1, ia2, ld2, m1, m2, s1]
          simp [h4, q6]
          refine ⟨w2 - 1, by omega, k + 1, by omega, by simp, S.set (i + k) (c0 + ab), by simpa using hS, ?_, fun p => ?_, G2⟩
          · rw [← hc0, VL_set _ _ _ (by omega), hV, colv_step, ha, hb, hab']
          · rw [← List.getD_eq_getElem?_getD, getD_set (by omega)]
            split
            · omega
            · have := hB p; omega
        · intro hkge
          simp at hkge
          have : k = lb := by omega
          subst this
          rw [colv_row nlt] at hV
          have q6 : IntKind.i64.wrap ((i : Int) + 1) = (i : Int) + 1 := wrap_small (by omega) (by omega)
          simp [h2, h4, h5, h6, q6]
          refine ⟨w - 1, by omega, h3, i + 1, by omega, by simp, S, hS, hV, fun p => ?_, G⟩
          have := hB p
          rw [Nat.add_mul, Nat.one_mul]; exact this
    · intro hge
      simp at hge
      have : i = la := by omega
      subst this
      rw [Nat.mod_eq_of_lt mlt] at hV
      have hNlt : m * n < 10 ^ (i + lb) := by rw [Nat.pow_add]; exact Nat.mul_lt_mul'' mlt nlt
      obtain ⟨Bd, hBd⟩ : ∃ Bd, 81 * (i * lb) = Bd := ⟨_, rfl⟩
      rw [hBd] at hB
      simp
      refine W_loop (fun (w : Nat) e Y => e 2 = .ptr (some (H.next, 0)) ∧ e 3 = .ptr (some (H.next + 1, 0)) ∧ e 4 = .ptr (some (H.next + 2, 0)) ∧ e 5 = vs ∧ ∃ j : Nat, w + j = L ∧ j + 1 ≤ L ∧ e 8 = .int .i64 j ∧ ∃ S : List Nat, S.length = L ∧ VL S = m * n ∧ (∀ p, S.getD p 0 ≤ 2 * Bd) ∧ (∀ p, j < p → S.getD p 0 ≤ Bd) ∧ (∀ p, p < j → S.getD p 0 < 10) ∧
        Fx H D [.own encI 1 vs (zs S) (some f), .box (H.next + 2) [.slc none 0 0 none, .bool false], .box (H.next + 1) [t, .bool (bel y)], .box H.next [s, .bool (bel x)]] [.rd encI 1 s (rdig x.natAbs), .rd encI 1 t (rdig y.natAbs)] Y) id L ?_ ?_
      · exact ⟨by simp [h2], by simp [h3], by simp [h4], by simp [h5], 0, by simp, by omega, by simp, S, hS, hV, fun p => by have := hB p; omega, fun p _ => hB p, fun p hp => by omega, G⟩
      · rintro w e Y ⟨h2, h3, h4, h5, j, hj, hjL, h8, S, hS, hV, hB1, hB2, hB3, G⟩
        have hown : Own encI 1 Y vs (zs S) (some f) := G.o.1
        have q6 : IntKind.i64.wrap ((j : Int) + 1) = ((j + 1 : Nat) : Int) := by rw [wrap_small (by omega) (by omega)]; omega
        simp [-Int.natCast_add, h5, h8, q6, lvs]
        refine WB.bool ?_ ?_
        · intro hlt
          have hlt : j + 1 < L := by simpa using hlt
          have ia1 : psem (.ia 1) [vs, .int .i64 ((j + 1 : Nat) : Int)] = some (elt vs 1 ((j + 1 : Nat) : Int)) := hown.1.ia (by omega) (by rw [zs_len]; omega)
          have ld1 : rsem (.ld 1 false) [elt vs 1 ((j + 1 : Nat) : Int)] Y = some (.int .i64 ((S.getD (j + 1) 0 : Nat) : Int)) := by rw [hown.1.ld (by omega) (by rw [zs_len]; omega), nth_zs]
          have ia0 : psem (.ia 1) [vs, .int .i64 (j : Int)] = some (elt vs 1 (j : Int)) := hown.1.ia (by omega) (by rw [zs_len]; omega)
          have ld0 : rsem (.ld 1 false) [elt vs 1 (j : Int)] Y = some (.int .i64 ((S.getD j 0 : Nat) : Int)) := by rw [hown.1.ld (by omega) (by rw [zs_len]; omega), nth_zs]
          have cV := VL_carry S j (by omega)
          have c1B := hB2 (j + 1) (by omega)
          have c0B := hB1 j
          obtain ⟨c1, hc1⟩ : ∃ c1, S.getD (j + 1) 0 = c1 := ⟨_, rfl⟩
          obtain ⟨c0, hc0⟩ : ∃ c0, S.getD j 0 = c0 := ⟨_, rfl⟩
          rw [hc1] at ld1 cV c1B
          rw [hc0] at ld0 cV c0B
          obtain ⟨z, hz⟩ : ∃ z, c0 / 10 = z := ⟨_, rfl⟩
          obtain ⟨d, hd2⟩ : ∃ d, c0 % 10 = d := ⟨_, rfl⟩
          rw [hz, hd2] at cV
          have q3 : (c0 : Int).tmod 10 = (d : Int) := by rw [← hd2]; rfl
          have q4 : IntKind.i64.wrap ((c0 : Int).tdiv 10) = (z : Int) := by rw [show (c0 : Int).tdiv 10 = ((c0 / 10 : Nat) : Int) from rfl, hz, wrap_small (by omega) (by omega)]
          have q5 : IntKind.i64.wrap ((c0 : Int) / 10) = (z : Int) := by rw [show (c0 : Int) / 10 = ((c0 / 10 : Nat) : Int) by omega, hz, wrap_small (by omega) (by omega)]
          have m2 : IntKind.i64.wrap ((c1 : Int) + z) = ((c1 + z : Nat) : Int) := by rw [wrap_small (by omega) (by omega)]; omega
          obtain ⟨Y2, s1, s2, s3, s4, s5⟩ := hown.st1 G.wf (i := ((j + 1 : Nat) : Int)) (by omega) (by rw [zs_len]; omega) ((c1 + z : Nat) : Int)
          rw [Int.toNat_natCast, zs_set] at s3
          have G2 := G.at 0 rfl (.own encI 1 vs (zs (S.set (j + 1) (c1 + z))) (some f)) rfl s2 (s4.mono fun g hg => by simpa using hg.symm) s3
          have ld0' : rsem (.ld 1 false) [elt vs 1 (j : Int)] Y2 = some (.int .i64 (c0 : Int)) := by rw [s3.1.ld (by omega) (by rw [zs_len]; simp; omega), nth_zs, getD_set (by omega), if_neg (by omega), hc0]
          obtain ⟨Y3, t1, t2, t3, t4, t5⟩ := s3.st1 G2.wf (i := (j : Int)) (by omega) (by rw [zs_len]; simp; omega) ((d : Nat) : Int)
          rw [Int.toNat_natCast, zs_set] at t3
          have G3 := G2.at 0 rfl (.own encI 1 vs (zs ((S.set (j + 1) (c1 + z)).set j d)) (some f)) rfl t2 (t4.mono fun g hg => by simpa using hg.symm) t3
          have gd : ∀ p, ((S.set (j + 1) (c1 + z)).set j d).getD p 0 = if p = j then d else if p = j + 1 then c1 + z else S.getD p 0 := by
            intro p
            rw [getD_set (by simp; omega)]
            split
            · rfl
            · rw [getD_set (by omega)]
          simp [-Int.natCast_add, h2, h3, h4, h5, h8, q3, q4, q5, q6, m2, ia0, ia1, ld0, ld1, ld0', s1, t1]
          refine ⟨w - 1, by omega, j + 1, by omega, by omega, rfl, (S.set (j + 1) (c1 + z)).set j d, by simpa using hS, ?_, fun p => ?_, fun p hp => ?_, fun p hp => ?_, G3⟩
          · rw [cV, hV]
          · rw [← List.getD_eq_getElem?_getD, gd]; split
            · omega
            · split
              · omega
              · exact hB1 p
          · rw [← List.getD_eq_getElem?_getD, gd, if_neg (by omega), if_neg (by omega)]; exact hB2 p (by omega)
          · rw [← List.getD_eq_getElem?_getD, gd]; split
            · omega
            · rw [if_neg (by omega)]; exact hB3 p (by omega)
        · intro hge
          have hge : L ≤ j + 1 := by simpa using hge
          have hjL1 : j + 1 = L := by omega
          have last : S.getD j 0 = 0 := by
            have h1 := VL_ge S j (by omega)
            rw [hV] at h1
            have h2 : i + lb = j := by omega
            rw [h2] at hNlt
            apply Classical.byContradiction
            intro hn0
            have := Nat.mul_le_mul_right (10 ^ j) (show 1 ≤ S.getD j 0 by omega)
            omega
          have all10 : ∀ c ∈ S, c < 10 := by
            intro c hc
            obtain ⟨p, hp, rfl⟩ := List.getElem_of_mem hc
            have e : S.getD p 0 = S[p] := by simp [List.getD_eq_getElem?_getD, List.getElem?_eq_getElem hp]
            rw [← e]
            by_cases hpj : p = j
            · subst hpj; rw [last]; decide
            · exact hB3 p (by omega)
          have ez := VL_digits S all10
          rw [hV, hS] at ez
          rw [ez] at G
          have K1 := G.read
          have kv : Rd _ encI 1 Y vs (rfd L (m * n)) := K1.p.1
          have k2 : Box Y H.next H.next _ := K1.o.2.2.1
          have k3 : Box Y (H.next + 1) (H.next + 1) _ := K1.o.2.1
          have vform := kv.sl.form
          simp [h2, h3, h5, k2.at 1 rfl, k3.at 1 rfl, psem_bld', fill, splice, vform.1, vform.2]
          refine WC.of (c453 Dt.d453 K1.wf K1.dn kv (by rw [rfd_len]; omega)) ?_
          rintro r W1 ⟨fr1, s6, rfl, hs6⟩
          have hlt : m * n < 10 ^ L := Nat.lt_of_lt_of_le hNlt (Nat.pow_le_pow_right (by decide) (by omega))
          rw [rtrim_rfd hlt] at hs6 ⊢
          rw [bel_sgn_rd]
          have esg : sgn (!(bel x == bel y)) (m * n) = x * y := by
            rw [← hm, ← hn, ← sgn_mul x y]; cases bel x <;> cases bel y <;> rfl
          have K2 := K1.callR fr1 (qs := [.rd encI 1 s6 _]) ⟨hs6, trivial⟩
          obtain ⟨W2, u2, K3⟩ := K2.stA 0 rfl 2 [s6, .bool (bel (x * y))] rfl rfl (by simp [hs6.sl.form.1])
          have B : Box W2 (H.next + 2) (H.next + 2) _ := K3.o.1
          rw [esg]
          simp [h4, u2, ares_cellA (hb := B)]
          refine ⟨K3.end.1, s6, rfl, ?_⟩
          rw [Int.natAbs_mul, hm, hn]
          exact K3.end.2.1
end Go.Am

/- Contracts of the reference's numbers: quotients. -/
set_option linter.unusedVariables false
set_option linter.unusedSimpArgs false
namespace Go.Am
variable {T : Tab}
theorem rfd_put {L p g c d : Nat} (hp : p < L) (hc : c < 10) (hd : d < 10) : (rfd L (g * 10 ^ (p + 1) + c * 10 ^ p)).set p (d : Int) = rfd L (g * 10 ^ (p + 1) + d * 10 ^ p) := by
  unfold rfd
  rw [← fd_put hp hc hd]
  apply List.ext_getElem
  · simp
  · intro i h1 h2
    have hi : i < L := by simpa [fd_len] using h2
    rw [List.getElem_set]
    simp only [List.getElem_reverse, List.length_set, fd_len, List.getElem_set]
    by_cases e : p = i
    · subst e; rw [if_pos rfl, if_pos rfl]
    · rw [if_neg e, if_neg (by omega)]
theorem nth_rfd {L n i : Nat} (hi : i < L) : nth (rfd L n) (i : Int) = ((n / 10 ^ i % 10 : Nat) : Int) := by
  unfold nth rfd fd
  have h2 : i < ((List.range L).map fun i => ((n / 10 ^ (L - 1 - i) % 10 : Nat) : Int)).reverse.length := by simp; omega
  rw [Int.toNat_natCast, List.getD_eq_getElem?_getD, List.getElem?_eq_getElem h2, Option.getD_some]
  rw [List.getElem_reverse, List.getElem_map, List.getElem_range, List.length_map, List.length_range]
  congr 2
  congr 1
  congr 1
  omega
theorem bel_nat (n : Nat) : bel (n : Int) = false := by simp [bel]
end Go.Am

/- Contracts of the reference: Add, Sub, Mul, Div, Compare, Digits, Int, Pow, Prime. -/
set_option linter.unusedVariables false
set_option linter.unusedSimpArgs false
namespace Go.Am
variable {T : Tab}
theorem errS_some1 {a : List UInt8} (h : errS [a] = 0) : (readS a).isSome = true := by
  obtain ⟨_, h2⟩ := errS_ok h
  obtain ⟨z, hz⟩ := h2 a (by simp)
  rw [hz]; rfl
theorem rdS_rlen (s : List UInt8) : (rdig (rdS s).natAbs).length ≤ 400 := by rw [rdig_len]; exact rdS_len s
theorem one_read (Dc : D447 T) (Dr : D448 T) {H : AHeap} (hw : WF H) {a : List UInt8} (ha : a.length < 2 ^ 40) :
    wsem0 (.bsl 1 1 [.str []] [(0, 1)]) [.str a] H = some (.slc (some (H.next, 0)) 1 1 (some 1), H.new [.str a]) ∧
    Calls T 447 [.slc (some (H.next, 0)) 1 1 (some 1)] (H.new [.str a]) (fun r X => X = H.new [.str a] ∧ r = .int .i64 (errS [a])) ∧
    Fx H (fun _ => False) [] [] (H.new [.str a]) :=
  ⟨(slS1 hw a).1, c447 Dc (slS1 hw a).2 (by simp) (by simpa using ha), (Fx.start hw (D := fun _ => False) (fun _ h => h.elim) (ps := []) trivial).call hw.fr_new⟩
theorem less_rlen {x y : Int} {k : Nat} (hx : (rdig x.natAbs).length ≤ k) (hy : (rdig y.natAbs).length ≤ k) : (rdig (x - y).natAbs).length ≤ k + 1 := by
  rw [rdig_len] at *; exact less_len hx hy
end Go.Am

/- Contracts of the reference: Prime, powers. -/
set_option linter.unusedVariables false
set_option linter.unusedSimpArgs false
namespace Go.Am
variable {T : Tab}
theorem NV.nil {D : Nat → Prop} {H : AHeap} : NV D H (.agg [.slc none 0 0 none, .bool false]) 0 := by
  refine ⟨.slc none 0 0 none, rfl, ?_⟩
  rw [show (0 : Int).natAbs = 0 from rfl, rdig_zero]
  exact ⟨(Own.nil (by simp)).1, by intro b off sv n c f cs e; simp at e⟩
/-- What pow gives. -/
def PowQ (D : Nat → Prop) (H H' : AHeap) (x : Int) (n : Nat) (b : Bool) (r : AV) : Prop :=
  Fr H H' ∧ ∃ w y, r = .tup [w, .bool b] ∧ NV D H' w y ∧ (rdig y.natAbs).length ≤ 400 ∧ (b = true → y = x ^ n)
theorem c471 (Dt : D471 T) {D : Nat → Prop} {H : AHeap} (hw : WF H) (hd : ∀ g, D g → g < H.next) {v : AV} {x : Int} {n : Nat} (hv : NV D H v x) (hx : (rdig x.natAbs).length ≤ 400) (hn : n ≤ 2000) :
    Calls T 471 [v, .int .i64 (n : Int)] H fun r H' => PowQ D H H' x n (powN x.natAbs 400 n 1).isSome r := by
  obtain ⟨s, rfl, sc, hs⟩ := hv.box
  refine Calls.fn Dt.pr Dt.fn ?_
  have F := (((Fx.start hw hd (ps := [.rd encI 1 s (rdig x.natAbs)]) ⟨hs, trivial⟩).bx H.next [s, .bool (bel x)]).bx (H.next + 1) [.slc none 0 0 none, .bool false])
  simp [ir471, new_next, sc]
  obtain ⟨X, hX⟩ : ∃ X, (H.new [s, .bool (bel x)]).new [.slc none 0 0 none, .bool false] = X := ⟨_, rfl⟩
  rw [hX] at F ⊢
  refine WC.of (c454 Dt.d454 F.wf F.dn (n := 1) (by decide)) ?_
  rintro r1 X1 ⟨fr1, h1⟩
  obtain ⟨s1, rfl, sc1, hs1⟩ := h1.box
  have F1 := (F.callR fr1 (qs := [.rd encI 1 s1 _]) ⟨hs1, trivial⟩).bx X1.next [.slc none 0 0 none, .bool false]
  obtain ⟨n6, hn6⟩ : ∃ n6, X1.next = n6 := ⟨_, rfl⟩
  rw [hn6] at F1
  obtain ⟨X2, t1, F2⟩ := F1.stA 0 rfl 2 [s1, .bool (bel 1)] rfl rfl (by simp [sc1])
  have B2 : Box X2 H.next H.next _ := F2.o.2.2.1
  have ls : psem .len [s] = some (.int .i64 (rdig x.natAbs).length) := hs.sl.len
  have hx0 : (rdig x.natAbs).length = 0 ↔ x = 0 := by rw [rdig_len0]; omega
  have F2' := F2.pbs (qs := [.rd encI 1 s1 (rdig (x ^ 0).natAbs), .rd encI 1 s (rdig x.natAbs)]) ⟨by rw [Int.pow_zero]; exact F2.p.1, F2.p.2.1, trivial⟩
  have e1 : bel 1 = bel (x ^ 0) := by rw [Int.pow_zero]
  rw [e1] at F2'
  have l1 : (rdig (x ^ 0).natAbs).length ≤ 400 := by rw [Int.pow_zero, rdig_len]; exact Nat.le_trans (dig_small (by decide)) (by decide)
  obtain ⟨m, hm⟩ : ∃ m, x.natAbs = m := ⟨_, rfl⟩
  have pa : ∀ i : Nat, (x ^ i).natAbs = m ^ i := fun i => by rw [Int.natAbs_pow, hm]
  obtain ⟨lx, hlx⟩ : ∃ lx, (rdig x.natAbs).length = lx := ⟨_, rfl⟩
  rw [hlx] at ls hx0 hx
  have one_end : ∀ {i : Nat} {s6 : AV} {Y : AHeap}, s6.cell = true → Fx H D [.box n6 [s6, .bool (bel (x ^ i))], .box (H.next + 1) [.slc none 0 0 none, .bool false], .box H.next [s, .bool (bel x)]] [.rd encI 1 s6 (rdig (x ^ i).natAbs), .rd encI 1 s (rdig x.natAbs)] Y → (rdig (x ^ i).natAbs).length ≤ 400 →
      Box Y n6 n6 [s6, .bool (bel (x ^ i))] ∧ ∃ Z, wsem0 (.st 2) [.ptr (some (H.next + 1, 0)), .agg [s6, .bool (bel (x ^ i))]] Y = some (.undef, Z) ∧ Box Z (H.next + 1) (H.next + 1) [s6, .bool (bel (x ^ i))] ∧ PowQ D H Z x i true (.tup [.agg [s6, .bool (bel (x ^ i))], .bool true]) := by
    intro i s6 Y hc G hl
    obtain ⟨Z, u1, G2⟩ := G.stA 1 rfl 2 [s6, .bool (bel (x ^ i))] rfl rfl (by simp [hc])
    exact ⟨G.o.1, Z, u1, G2.o.2.1, G2.fr, _, x ^ i, rfl, ⟨s6, rfl, G2.end.2.1⟩, hl, fun _ => rfl⟩
  simp [hn6, t1, B2.at 0 rfl, ls]
  by_cases hl : lx = 0
  · have hx0' := hx0.1 hl
    by_cases hn0 : n = 0
    · subst hn0
      obtain ⟨k6, Z, u1, kZ, hQ⟩ := one_end sc1 F2' l1
      rw [Int.pow_zero] at k6 u1 kZ hQ
      simp [hl]
      refine W_loop (fun (w : Nat) e Y => e 1 = .int .i64 0 ∧ e 7 = .int .i64 0 ∧ e 6 = .ptr (some (n6, 0)) ∧ e 4 = .ptr (some (H.next + 1, 0)) ∧ Y = X2) id 0 ?_ ?_
      · exact ⟨by simp, by simp, by simp, by simp, rfl⟩
      · rintro w e Y ⟨h1, h7, h6, h4, rfl⟩
        simp [h1, h7, h6, h4, k6.all 2 rfl, u1, ares_cellA (hb := kZ)]
        exact hQ
    · have hp : powN x.natAbs 400 n 1 = some (1 * x.natAbs ^ n) := powN_some (by decide) (by
        rw [hx0', show (0 : Int).natAbs = 0 from rfl, Nat.zero_pow (by omega), Nat.mul_zero, dig_zero]; decide)
      obtain ⟨Y, u1, F3⟩ := F2.stA 1 rfl 2 [s, .bool (bel x)] rfl rfl (by simp [sc])
      have B4 : Box Y (H.next + 1) (H.next + 1) _ := F3.o.2.1
      have hnp : (0 : Int) < (n : Int) := by omega
      have hnp' : 0 < n := by omega
      rw [hp]
      simp [hl, hnp, hnp', B2.all 2 rfl, u1, ares_cellA (hb := B4)]
      refine ⟨F3.fr, _, x, rfl, ⟨s, rfl, F3.end.2.2.1⟩, by omega, fun _ => ?_⟩
      rw [hx0', Int.zero_pow (by omega)]
  · rw [hm]
    simp [hl]
    refine W_loop (fun (w : Nat) e Y => e 1 = .int .i64 n ∧ e 2 = .ptr (some (H.next, 0)) ∧ e 4 = .ptr (some (H.next + 1, 0)) ∧ e 6 = .ptr (some (n6, 0)) ∧ ∃ i : Nat, w + i = n ∧ e 7 = .int .i64 i ∧ powN m 400 n 1 = powN m 400 w (m ^ i) ∧ (rdig (x ^ i).natAbs).length ≤ 400 ∧ ∃ s6, s6.cell = true ∧
      Fx H D [.box n6 [s6, .bool (bel (x ^ i))], .box (H.next + 1) [.slc none 0 0 none, .bool false], .box H.next [s, .bool (bel x)]] [.rd encI 1 s6 (rdig (x ^ i).natAbs), .rd encI 1 s (rdig x.natAbs)] Y) id n ?_ ?_
    · exact ⟨by simp, by simp, by simp, by simp, 0, by simp, by simp, by simp, l1, s1, sc1, F2'⟩
    · rintro w e Y ⟨h1, h2, h4, h6, i, hi, h7, hpw, hli, s6, sc6, G⟩
      have k6 : Box Y n6 n6 _ := G.o.1
      have k2 : Box Y H.next H.next _ := G.o.2.2.1
      simp [h1, h7]
      refine WB.bool ?_ ?_
      · intro hlt
        simp at hlt
        obtain ⟨w, rfl⟩ : ∃ w', w = w' + 1 := ⟨w - 1, by omega⟩
        simp [h2, h6, k6.all 2 rfl, k2.all 2 rfl]
        refine WC.of (c452 Dt.d452 G.wf G.dn (x := x ^ i) (y := x) ⟨s6, rfl, G.p.1⟩ ⟨s, rfl, G.p.2.1⟩ (by omega) (by omega)) ?_
        rintro r3 Y3 ⟨fr3, h3⟩
        rw [← Int.pow_succ] at h3
        obtain ⟨s7, rfl, sc7, hs7⟩ := h3.box
        have G1 := G.callR fr3 (qs := [.rd encI 1 s7 _]) ⟨hs7, trivial⟩
        obtain ⟨Y4, u4, G2⟩ := G1.stA 0 rfl 2 [s7, .bool (bel (x ^ (i + 1)))] rfl rfl (by simp [sc7])
        have k6' : Box Y4 n6 n6 _ := G2.o.1
        have l7 : psem .len [s7] = some (.int .i64 (rdig (x ^ (i + 1)).natAbs).length) := hs7.sl.len
        obtain ⟨L, hL⟩ : ∃ L, (rdig (x ^ (i + 1)).natAbs).length = L := ⟨_, rfl⟩
        have hL2 : (dig (m ^ i * m)).length = L := by rw [← Nat.pow_succ, ← pa, ← rdig_len]; exact hL
        have stp : powN m 400 (w + 1) (m ^ i) = if (400 : Int) < ((dig (m ^ i * m)).length : Int) then none else powN m 400 w (m ^ i * m) := rfl
        rw [hL2] at stp
        rw [stp] at hpw
        rw [hL] at l7
        simp [h6, u4, k6'.at 0 rfl, l7]
        by_cases hbig : 400 < L
        · have hbig' : (400 : Int) < (L : Int) := by omega
          rw [if_pos hbig'] at hpw
          obtain ⟨Z, u5, G3⟩ := G2.stA 1 rfl 2 [.slc none 0 0 none, .bool false] rfl rfl (by simp)
          have k4 : Box Z (H.next + 1) (H.next + 1) _ := G3.o.2.1
          rw [hpw]
          simp [hbig, hbig', h4, psem_bld', fill, splice, u5, ares_cellA (hb := k4)]
          exact ⟨G3.fr, _, 0, rfl, NV.nil, by rw [show (0 : Int).natAbs = 0 from rfl, rdig_zero]; decide, fun h => by cases h⟩
        · have hbig' : ¬ (400 : Int) < (L : Int) := by omega
          rw [if_neg hbig'] at hpw
          have q6 : IntKind.i64.wrap ((i : Int) + 1) = ((i + 1 : Nat) : Int) := by rw [wrap_small (by omega) (by omega)]; omega
          have hpw2 : powN m 400 n 1 = powN m 400 w (m ^ (i + 1)) := by rw [hpw, Nat.pow_succ]
          simp [-Int.natCast_add, -Int.natAbs_pow, hbig, hbig', h1, h2, h4, h7, q6]
          have l8 : (rdig (x.natAbs ^ (i + 1))).length ≤ 400 := by rw [← Int.natAbs_pow]; omega
          have G9 := G2.pbs (qs := [.rd encI 1 s7 (rdig (x.natAbs ^ (i + 1))), .rd encI 1 s (rdig x.natAbs)]) ⟨by rw [← Int.natAbs_pow]; exact G2.p.1, G2.p.2.2.1, trivial⟩
          exact ⟨w, by omega, h6, i + 1, by omega, rfl, hpw2, l8, s7, sc7, G9⟩
      · intro hge
        simp at hge
        obtain rfl : w = 0 := by omega
        obtain rfl : i = n := by omega
        have hsome : powN m 400 i 1 = some (m ^ i) := hpw
        obtain ⟨_, Z, u1, kZ, hQ⟩ := one_end sc6 G hli
        rw [hsome]
        simp [h4, h6, k6.all 2 rfl, u1, ares_cellA (hb := kZ)]
        exact hQ
theorem sgn_times (a b : Bool) (m n : Nat) : sgn a m * sgn b n = sgn (a != b) (m * n) := by
  unfold sgn
  cases a <;> cases b <;> simp [Int.neg_mul, Int.mul_neg]
theorem sgn_self (x : Int) : sgn (bel x) x.natAbs = x := by
  unfold sgn bel
  by_cases h : x < 0
  · simp [h]; omega
  · simp [h]; omega
theorem pow_sgn (x : Int) : ∀ n : Nat, x ^ n = sgn (bel x && decide ((n : Int).tmod 2 = 1)) (x.natAbs ^ n)
  | 0 => by
    have : decide (((0 : Nat) : Int).tmod 2 = 1) = false := by decide
    rw [this, Bool.and_false, Int.pow_zero, Nat.pow_zero]; rfl
  | n + 1 => by
    rw [Int.pow_succ, pow_sgn x n]
    conv => lhs; rhs; rw [← sgn_self x]
    rw [sgn_times, ← Nat.pow_succ]
    congr 1
    have h1 : ((n : Int).tmod 2 = 1) ↔ n % 2 = 1 := by
      rw [show (n : Int).tmod 2 = ((n % 2 : Nat) : Int) from rfl]; omega
    have h2 : (((n + 1 : Nat) : Int).tmod 2 = 1) ↔ ¬ n % 2 = 1 := by
      rw [show ((n + 1 : Nat) : Int).tmod 2 = (((n + 1) % 2 : Nat) : Int) from rfl]; omega
    by_cases h : n % 2 = 1
    · rw [decide_eq_true (h1.2 h), decide_eq_false (fun h3 => h2.1 h3 h)]
      cases bel x <;> rfl
    · rw [decide_eq_false (fun h3 => h (h1.1 h3)), decide_eq_true (h2.2 h)]
      cases bel x <;> rfl
theorem c419 (Dt : D419 T) {H : AHeap} (hw : WF H) {a : List UInt8} {n : Int} (ha : a.length < 2 ^ 40) : Calls T 419 [.str a, .int .i64 n] H fun r H' => Fr H H' ∧ r = .tup [.str (powS a n).2, .int .i64 (powS a n).1] := by
  refine Calls.fn Dt.pr Dt.fn ?_
  obtain ⟨s1, hc, F⟩ := one_read Dt.d447 Dt.d448 hw ha
  simp [ir419, s1]
  refine WC.of hc ?_
  rintro r X ⟨rfl, rfl⟩
  unfold powS
  by_cases e : errS [a] = 0
  · rw [if_pos e]
    by_cases hb : n < 0 ∨ 2000 < n
    · rw [if_pos hb]
      by_cases h1 : n < 0
      · simp [e, h1]
        exact F.fr
      · have h2 : 2000 < n := hb.resolve_left h1
        simp [e, h1, h2]
        exact F.fr
    · rw [if_neg hb]
      have h1 : ¬ n < 0 := fun h => hb (.inl h)
      have h2 : ¬ 2000 < n := fun h => hb (.inr h)
      simp [e, h1, h2]
      refine WC.of (c448 Dt.d448 F.wf F.dn (errS_some1 e)) ?_
      rintro r1 X1 ⟨fr1, h1⟩
      have F1 := F.callR fr1 (qs := [.nv r1 _]) ⟨h1, trivial⟩
      obtain ⟨k, rfl⟩ : ∃ k : Nat, n = k := ⟨n.toNat, by omega⟩
      obtain ⟨x, hx⟩ : ∃ x, rdS a = x := ⟨_, rfl⟩
      have lx := rdS_rlen a
      rw [hx] at F1 lx ⊢
      simp
      refine WC.of (c471 Dt.d471 F1.wf F1.dn F1.p.1 lx (n := k) (by omega)) ?_
      rintro r2 X2 ⟨fr2, w, y, rfl, hw2, ly, hy⟩
      obtain ⟨s2, rfl, sc2, hs2⟩ := hw2.box
      have F2 := (F1.callR fr2 (qs := [.rd encI 1 s2 _]) ⟨hs2, trivial⟩).bx X2.next [.slc none 0 0 none, .bool false]
      obtain ⟨Y, t1, F3⟩ := F2.stA 0 rfl 2 [s2, .bool (bel y)] rfl rfl (by simp [sc2])
      have B7 : Box Y X2.next X2.next _ := F3.o.1
      cases hz : powN x.natAbs 400 k 1 with
      | none =>
        rw [hz] at hy
        simp [hz, t1]
        exact F3.fr
      | some p =>
        have hp := powN_eq hz
        rw [Nat.one_mul] at hp
        rw [hz] at hy
        have hy := hy rfl
        simp [hz, t1, B7.all 2 rfl]
        refine WC.of (c465 Dt.d465 F3.wf F3.dn (z := y) ⟨s2, rfl, F3.p.1⟩ (by omega)) ?_
        rintro r4 X4 ⟨fr4, rfl⟩
        have ho : outS y = (0, showS y) := by
          have : bigZ y = false := by unfold bigZ; rw [← rdig_len]; simp; exact ly
          unfold outS; rw [this]; rfl
        have hs : showS (sgn (bel x && decide ((k : Int).tmod 2 = 1)) p) = showS y := by rw [hy, pow_sgn, hp]
        rw [ho]
        simp
        exact ⟨(F3.call fr4).fr, hs.symm⟩
  · simp [e]
    exact F.fr
end Go.Am

/- Contracts of the reference: Gcd. -/
set_option linter.unusedVariables false
set_option linter.unusedSimpArgs false
namespace Go.Am
variable {T : Tab}
abbrev rdI (s : AV) (z : Int) : Pb := .rd encI 1 s (rdig z.natAbs)
end Go.Am

/- Contracts of the reference: Root. -/
set_option linter.unusedVariables false
set_option linter.unusedSimpArgs false
namespace Go.Am
variable {T : Tab}
theorem rfd_zero (L : Nat) : rfd L 0 = List.replicate L 0 := by unfold rfd; rw [fd_zero]; simp
theorem powN_has {m n x : Nat} (hx : (dig x).length ≤ 400) (h : m ^ n ≤ x) : powN m 400 n 1 = some (m ^ n) := by
  have := powN_some (m := m) (most := 400) (by decide) (k := n) (a := 1) (by rw [Nat.one_mul]; have := dig_len_mono h; omega)
  rw [this, Nat.one_mul]
theorem c422 (Dt : D422 T) {H : AHeap} (hw : WF H) {a : List UInt8} {n : Int} (ha : a.length < 2 ^ 40) (hs : errS [a] = 0 → (dig (rdS a).natAbs).length ≤ 399) :
    Calls T 422 [.str a, .int .i64 n] H fun r H' => Fr H H' ∧ RootQ a n r := by
  refine Calls.fn Dt.pr Dt.fn ?_
  obtain ⟨s1, hc, F⟩ := one_read Dt.d447 Dt.d448 hw ha
  simp [ir422, s1]
  refine WC.of hc ?_
  rintro r X ⟨rfl, rfl⟩
  by_cases e : errS [a] = 0
  · have he := e
    have lx := hs e
    simp [e]
    refine WC.of (c448 Dt.d448 F.wf F.dn (errS_some1 e)) ?_
    rintro r1 X1 ⟨fr1, hr1⟩
    obtain ⟨s, rfl, sc, hs1⟩ := hr1.box
    have F1 := (F.callR fr1 (qs := [rdI s _]) ⟨hs1, trivial⟩).bx X1.next [.slc none 0 0 none, .bool false]
    obtain ⟨Y, t1, F2⟩ := F1.stA 0 rfl 2 [s, .bool (bel (rdS a))] rfl rfl (by simp [sc])
    obtain ⟨n8, hn8⟩ : ∃ n, X1.next = n := ⟨_, rfl⟩
    rw [hn8] at t1 F2
    have B8 : Box Y n8 n8 _ := F2.o.1
    simp [hn8, t1]
    by_cases h1 : n < 1
    · simp [h1]
      exact ⟨F2.fr, _, _, _, rfl, fun h => absurd e h, fun _ _ => ⟨rfl, rfl, rfl⟩, fun _ h => absurd (.inl h1) h⟩
    · by_cases h2 : 50 < n
      · simp [h1, h2]
        exact ⟨F2.fr, _, _, _, rfl, fun h => absurd e h, fun _ _ => ⟨rfl, rfl, rfl⟩, fun _ h => absurd (.inr (.inl h2)) h⟩
      · cases hbl : bel (rdS a) with
        | true =>
          rw [hbl] at B8
          simp [h1, h2, B8.at 1 rfl]
          exact ⟨F2.fr, _, _, _, rfl, fun h => absurd e h, fun _ _ => ⟨rfl, rfl, rfl⟩, fun _ h => absurd (.inr (.inr hbl)) h⟩
        | false =>
          have hok : ¬ (n < 1 ∨ 50 < n ∨ bel (rdS a) = true) := by rw [hbl]; simp; omega
          have hx0 : 0 ≤ rdS a := by simpa [bel] using hbl
          obtain ⟨x, hx⟩ : ∃ x : Nat, rdS a = x := ⟨(rdS a).natAbs, by omega⟩
          rw [hx, Int.natAbs_natCast] at lx
          rw [hbl] at B8 F2
          rw [hx] at F2
          obtain ⟨k, rfl⟩ : ∃ k : Nat, n = k := ⟨n.toNat, by omega⟩
          have hk1 : 1 ≤ k := by omega
          obtain ⟨len, hlen⟩ : ∃ len, (rdig x).length = len := ⟨_, rfl⟩
          have lx' := lx
          rw [← rdig_len, hlen] at lx
          have lp : psem .len [s] = some (.int .i64 len) := by have := (show Rd _ encI 1 Y s (rdig (x : Int).natAbs) from F2.p.1).sl.len; rw [Int.natAbs_natCast, hlen] at this; exact this
          obtain ⟨L, hL⟩ : ∃ L, len / k + 1 = L := ⟨_, rfl⟩
          have hLb : L ≤ 400 := by rw [← hL]; have := Nat.div_le_self len k; omega
          have w1 : IntKind.i64.wrap ((len : Int).tdiv k) = ((len / k : Nat) : Int) := by
            rw [show (len : Int).tdiv k = ((len / k : Nat) : Int) from rfl]; exact wrap_small (by omega) (by omega)
          have w1' : IntKind.i64.wrap ((len : Int) / k) = ((len / k : Nat) : Int) := by
            rw [show (len : Int) / k = ((len / k : Nat) : Int) by simp]; exact wrap_small (by omega) (by omega)
          obtain ⟨dk, hdk⟩ : ∃ dk, len / k = dk := ⟨_, rfl⟩
          rw [hdk] at hL w1 w1'
          have w2 : IntKind.i64.wrap ((dk : Int) + 1) = (L : Int) := by rw [wrap_small (by omega) (by omega)]; omega
          have nz : ¬ ((k : Int) = 0) := by omega
          have nz' : ¬ k = 0 := by omega
          obtain ⟨mk1, mk2⟩ := mk0 F2.wf (n := L) (by omega)
          have xlt : x < 10 ^ (L * k) := by
            refine Nat.lt_of_lt_of_le (dig_lt x) (Nat.pow_le_pow_right (by decide) ?_)
            rw [← rdig_len, hlen]
            have e1 := Nat.div_add_mod len k
            have e2 := Nat.mod_lt len hk1
            rw [hdk] at e1
            rw [← hL, Nat.add_mul, Nat.one_mul, Nat.mul_comm dk]
            omega
          simp [h1, h2, B8.at 1 rfl, B8.at 0 rfl, lp, w1, w1', w2, nz, nz', mk1]
          obtain ⟨root, hroot⟩ : ∃ root, AV.slc (some (Y.next, 0)) 1 L (some L) = root := ⟨_, rfl⟩
          rw [hroot] at mk2 ⊢
          have lroot : psem .len [root] = some (.int .i64 L) := by rw [mk2.1.len]; simp
          have w3 : IntKind.i64.wrap ((L : Int) - 1) = (L : Int) - 1 := wrap_small (by omega) (by omega)
          have F3 := F2.mkO F2.wf.new F2.wf.keeps_new (.own encI 1 root (List.replicate L 0) (some Y.next)) (by simp) (by simp) mk2
          obtain ⟨f, hf⟩ : ∃ f, Y.next = f := ⟨_, rfl⟩
          rw [hf, ← rfd_zero] at F3
          simp [lroot, w3]
          refine W_loop (fun (p : Nat) e W => e 1 = .int .i64 k ∧ e 8 = .ptr (some (n8, 0)) ∧ e 9 = root ∧ e 10 = .int .i64 ((p : Int) - 1) ∧ p ≤ L ∧ ∃ g : Nat, (g * 10 ^ p) ^ k ≤ x ∧ x < ((g + 1) * 10 ^ p) ^ k ∧
            Fx H (fun _ => False) [.own encI 1 root (rfd L (g * 10 ^ p)) (some f), .box n8 [s, .bool false]] [rdI s (x : Int)] W) id L ?_ ?_
          · refine ⟨by simp, by simp [hn8], by simp, by simp, Nat.le_refl _, 0, ?_, ?_, ?_⟩
            · rw [Nat.zero_mul, Nat.zero_pow hk1]; exact Nat.zero_le _
            · rw [Nat.zero_add, Nat.one_mul, ← Nat.pow_mul]; exact xlt
            · rw [Nat.zero_mul]; exact F3
          · rintro p e W ⟨h1, h8, h9, h10, hp, g, hlo, hhi, FW⟩
            simp [h10]
            refine WB.bool ?_ ?_
            · intro hge
              simp at hge
              obtain ⟨t, rfl⟩ : ∃ t, p = t + 1 := ⟨p - 1, by omega⟩
              have ht : ((t + 1 : Nat) : Int) - 1 = (t : Int) := by omega
              rw [ht] at h10
              have ht10 : 10 ^ (t + 1) = 10 ^ t * 10 := Nat.pow_succ 10 t
              have wt : IntKind.i64.wrap ((t : Int) - 1) = (t : Int) - 1 := wrap_small (by omega) (by omega)
              have form : ∀ c, (g * 10 + c) * 10 ^ t = g * 10 ^ (t + 1) + c * 10 ^ t := by
                intro c; rw [ht10, Nat.add_mul, Nat.mul_assoc, Nat.mul_comm 10]
              have hgL : g * 10 ^ (t + 1) + 10 ^ (t + 1) ≤ 10 ^ L := by
                have hgk : (g * 10 ^ (t + 1)) ^ k < (10 ^ L) ^ k := by rw [← Nat.pow_mul]; omega
                have hlt2 : g * 10 ^ (t + 1) < 10 ^ L := by
                  apply Classical.byContradiction
                  intro hn
                  have := Nat.pow_le_pow_left (show 10 ^ L ≤ g * 10 ^ (t + 1) by omega) k
                  omega
                have e1 : 10 ^ L = 10 ^ (L - (t + 1)) * 10 ^ (t + 1) := by rw [← Nat.pow_add]; congr 1; omega
                have hlt3 : g < 10 ^ (L - (t + 1)) := by
                  rw [e1] at hlt2
                  exact Nat.lt_of_mul_lt_mul_right hlt2
                have := Nat.mul_le_mul_right (10 ^ (t + 1)) (show g + 1 ≤ 10 ^ (L - (t + 1)) by omega)
                rw [Nat.add_mul, Nat.one_mul, ← e1] at this
                exact this
              have valL : ∀ c, c ≤ 9 → g * 10 ^ (t + 1) + c * 10 ^ t < 10 ^ L := by
                intro c hc
                have h1 : c * 10 ^ t ≤ 9 * 10 ^ t := Nat.mul_le_mul_right _ hc
                have h2 : 0 < 10 ^ t := Nat.pow_pos (by decide)
                omega
              have fin : ∀ c, c ≤ 9 → (g * 10 ^ (t + 1) + c * 10 ^ t) ^ k ≤ x → (c = 9 ∨ x < (g * 10 ^ (t + 1) + (c + 1) * 10 ^ t) ^ k) →
                  ((g * 10 + c) * 10 ^ t) ^ k ≤ x ∧ x < ((g * 10 + c + 1) * 10 ^ t) ^ k := by
                intro c hc h1 h2
                rw [Nat.add_assoc (g * 10), form, form]
                refine ⟨h1, ?_⟩
                rcases h2 with rfl | h2
                · have : g * 10 ^ (t + 1) + (9 + 1) * 10 ^ t = (g + 1) * 10 ^ (t + 1) := by rw [Nat.add_mul g, ht10]; omega
                  rw [this]; exact hhi
                · exact h2
              simp
              refine W_loop (fun (w2 : Nat) e W => e 1 = .int .i64 k ∧ e 8 = .ptr (some (n8, 0)) ∧ e 9 = root ∧ e 10 = .int .i64 t ∧ ∃ c : Nat, w2 + c = 9 ∧ (g * 10 ^ (t + 1) + c * 10 ^ t) ^ k ≤ x ∧
                Fx H (fun _ => False) [.own encI 1 root (rfd L (g * 10 ^ (t + 1) + c * 10 ^ t)) (some f), .box n8 [s, .bool false]] [rdI s (x : Int)] W) id 9 ?_ ?_
              · refine ⟨by simp [h1], by simp [h8], by simp [h9], by simp [h10], 0, by simp, ?_, ?_⟩
                · rw [Nat.zero_mul, Nat.add_zero]; exact hlo
                · rw [Nat.zero_mul, Nat.add_zero]; exact FW
              · rintro w2 e W ⟨h1, h8, h9, h10, c, hc, hcx, FD⟩
                have hown : Own encI 1 W root (rfd L (g * 10 ^ (t + 1) + c * 10 ^ t)) (some f) := FD.o.1
                have ia : psem (.ia 1) [root, .int .i64 (t : Int)] = some (elt root 1 (t : Int)) := hown.1.ia (by omega) (by rw [rfd_len]; omega)
                have dgt : (g * 10 ^ (t + 1) + c * 10 ^ t) / 10 ^ t % 10 = c := by
                  rw [← form, Nat.mul_div_cancel _ (Nat.pow_pos (by decide))]; omega
                have ld : rsem (.ld 1 false) [elt root 1 (t : Int)] W = some (.int .i64 (c : Int)) := by
                  rw [hown.1.ld (by omega) (by rw [rfd_len]; omega), nth_rfd (by omega), dgt]
                simp [h9, h10, ia, ld]
                refine WB.bool ?_ ?_
                · intro hlt
                  have hlt : c < 9 := by have : (c : Int) < 9 := by simpa using hlt
                                         omega
                  obtain ⟨val, hval⟩ : ∃ val, g * 10 ^ (t + 1) + (c + 1) * 10 ^ t = val := ⟨_, rfl⟩
                  have hvalL : val < 10 ^ L := by rw [← hval]; exact valL (c + 1) (by omega)
                  have wc : IntKind.i64.wrap ((c : Int) + 1) = ((c + 1 : Nat) : Int) := by rw [wrap_small (by omega) (by omega)]; omega
                  have wc' : IntKind.i64.wrap (((c + 1 : Nat) : Int) - 1) = (c : Int) := by rw [wrap_small (by omega) (by omega)]; omega
                  obtain ⟨W2, s1, s2, s3, s4, s5⟩ := hown.st1 FD.wf (i := (t : Int)) (by omega) (by rw [rfd_len]; omega) ((c + 1 : Nat) : Int)
                  have s3' : Own encI 1 W2 root (rfd L val) (some f) := by
                    rw [Int.toNat_natCast, rfd_put (show t < L by omega) (show c < 10 by omega) (show c + 1 < 10 by omega), hval] at s3
                    exact s3
                  have FD2 := FD.at 0 rfl (.own encI 1 root (rfd L val) (some f)) rfl s2 (s4.mono fun g hg => by simpa using hg.symm) s3'
                  obtain ⟨v', W3, a1, fr3, hmade⟩ := app_made (bytes := 8) (Fr.refl FD2.wf) (v := .slc none 0 0 none) (l := ([] : List Int)) ⟨none, Own.nil (by simp), by simp⟩ s3'.1 (by simp) (by simp) (by rw [rfd_len]; simp; omega) (by rw [rfd_len]; simp; omega)
                  rw [List.nil_append] at hmade
                  have FD3 := FD2.callR fr3 (qs := [.rd encI 1 v' (rfd L val)]) ⟨hmade.rd FD2.dn, trivial⟩
                  have vform := hmade.rd FD2.dn |>.sl.form
                  simp [-Int.natCast_add, h9, h10, ia, ld, wc, s1, a1, psem_bld', fill, splice, vform.1, vform.2]
                  refine WC.of (c453 Dt.d453 FD3.wf FD3.dn FD3.p.1 (by rw [rfd_len]; omega)) ?_
                  rintro r4 W4 ⟨fr4, s4, rfl, hs4⟩
                  rw [rtrim_rfd hvalL] at hs4
                  have FD4 := FD3.callR fr4 (qs := [.rd encI 1 s4 (rdig val)]) ⟨hs4, trivial⟩
                  have lval : (rdig val).length ≤ 400 := by rw [rdig_len]; exact Nat.le_trans (dig_len_le hvalL) hLb
                  simp [-Int.natCast_add, h1]
                  refine WC.of (c471 Dt.d471 FD4.wf FD4.dn (x := (val : Int)) (n := k) ⟨s4, by rw [bel_nat], by rw [Int.natAbs_natCast]; exact FD4.p.1⟩ (by rw [Int.natAbs_natCast]; exact lval) (by omega)) ?_
                  rintro r5 W5 ⟨fr5, w, y, rfl, hw5, ly, hy⟩
                  rw [Int.natAbs_natCast] at hy ⊢
                  obtain ⟨s5, rfl, sc5, hs5⟩ := hw5.box
                  have FD5 := (FD4.callR fr5 (qs := [rdI s5 y]) ⟨hs5, trivial⟩).bx W5.next [.slc none 0 0 none, .bool false]
                  obtain ⟨W6, t6, FD6⟩ := FD5.stA 0 rfl 2 [s5, .bool (bel y)] rfl rfl (by simp [sc5])
                  have B11 : Box W6 W5.next W5.next _ := FD6.o.1
                  have B8' : Box W6 n8 n8 _ := FD6.o.2.2.1
                  have hown6 : Own encI 1 W6 root (rfd L val) (some f) := FD6.o.2.1
                  have back : ∀ {W : AHeap}, Fx H (fun _ => False) [.box W5.next [s5, .bool (bel y)], .own encI 1 root (rfd L val) (some f), .box n8 [s, .bool false]] [rdI s (x : Int)] W →
                      rsem (.ld 1 false) [elt root 1 (t : Int)] W = some (.int .i64 ((c + 1 : Nat) : Int)) ∧ ∃ W', wsem0 (.st 1) [elt root 1 (t : Int), .int .i64 (c : Int)] W = some (.undef, W') ∧ Fx H (fun _ => False) [.own encI 1 root (rfd L (g * 10 ^ (t + 1) + c * 10 ^ t)) (some f), .box n8 [s, .bool false]] [rdI s (x : Int)] W' := by
                    intro W K
                    have ho : Own encI 1 W root (rfd L val) (some f) := K.o.2.1
                    have dg2 : val / 10 ^ t % 10 = c + 1 := by
                      rw [← hval, ← form, Nat.mul_div_cancel _ (Nat.pow_pos (by decide))]; omega
                    refine ⟨by rw [ho.1.ld (by omega) (by rw [rfd_len]; omega), nth_rfd (by omega), dg2], ?_⟩
                    obtain ⟨W', q1, q2, q3, q4, q5⟩ := ho.st1 K.wf (i := (t : Int)) (by omega) (by rw [rfd_len]; omega) (c : Int)
                    rw [Int.toNat_natCast, ← hval, rfd_put (show t < L by omega) (show c + 1 < 10 by omega) (show c < 10 by omega)] at q3
                    exact ⟨W', q1, (K.at 1 rfl (.own encI 1 root (rfd L (g * 10 ^ (t + 1) + c * 10 ^ t)) (some f)) rfl q2 (q4.mono fun g hg => by simpa using hg.symm) q3).drop⟩
                  have FD7 := FD6.pbs (qs := [rdI s5 y, rdI s (x : Int)]) ⟨FD6.p.1, FD6.p.2.2.2.1, trivial⟩
                  have FD8 := FD7.pbs (qs := [rdI s (x : Int)]) ⟨FD7.p.2.1, trivial⟩
                  cases hz : powN val 400 k 1 with
                  | none =>
                    have hgt : x < val ^ k := by
                      apply Classical.byContradiction
                      intro hn
                      have := powN_has (m := val) (n := k) (x := x) (by omega) (by omega)
                      rw [this] at hz; cases hz
                    rw [← hval] at hgt
                    obtain ⟨f1, f2⟩ := fin c (by omega) hcx (.inr hgt)
                    obtain ⟨ld2, W9, u9, FD9⟩ := back FD8
                    simp [-Int.natCast_add, t6, h1, h8, h9, h10, ia, ld2, wc', u9, wt]
                    exact ⟨t, by omega, rfl, by omega, g * 10 + c, f1, f2, by rw [form]; exact FD9⟩
                  | some pv =>
                    have epv := powN_eq hz
                    rw [Nat.one_mul] at epv
                    have ey := hy (by rw [hz]; rfl)
                    have eya : y.natAbs = val ^ k := by rw [ey, Int.natAbs_pow, Int.natAbs_natCast]
                    simp [-Int.natCast_add, t6, h8, B11.all 2 rfl, B8'.all 2 rfl]
                    refine WC.of (c475 Dt.d475 FD7.wf FD7.dn (x := y) (y := (x : Int)) ⟨s5, rfl, FD7.p.1⟩ ⟨s, by rw [bel_nat], FD7.p.2.1⟩ (by omega) (by rw [Int.natAbs_natCast]; omega)) ?_
                    rintro r9 W8 ⟨fr9, rfl⟩
                    have FD10 := FD8.call fr9
                    rw [eya, Int.natAbs_natCast]
                    obtain ⟨vk, hvk⟩ : ∃ vk, val ^ k = vk := ⟨_, rfl⟩
                    rw [hvk]
                    have hcm : 0 < cmpZ (vk : Int) (x : Int) ↔ x < vk := by
                      unfold cmpZ
                      split
                      · simp; omega
                      · split
                        · simp; omega
                        · simp; omega
                    by_cases hgt : x < vk
                    · have hc1 := hcm.2 hgt
                      have hgt2 := hgt
                      rw [← hvk, ← hval] at hgt2
                      obtain ⟨f1, f2⟩ := fin c (by omega) hcx (.inr hgt2)
                      obtain ⟨ld2, W9, u9, FD9⟩ := back FD10
                      simp [-Int.natCast_add, hc1, h1, h8, h9, h10, ia, ld2, wc', u9, wt]
                      exact ⟨t, by omega, rfl, by omega, g * 10 + c, f1, f2, by rw [form]; exact FD9⟩
                    · have hc1 : ¬ 0 < cmpZ (vk : Int) (x : Int) := fun h => hgt (hcm.1 h)
                      simp [-Int.natCast_add, hc1, h1, h8, h9, h10]
                      exact ⟨w2 - 1, by omega, c + 1, by omega, by rw [hval, hvk]; omega, by rw [hval]; exact FD10.drop⟩
                · intro hge9
                  have hc9 : c = 9 := by have : ¬ (c : Int) < 9 := by simpa using hge9
                                         omega
                  obtain ⟨f1, f2⟩ := fin c (by omega) hcx (.inl hc9)
                  simp [h1, h8, h9, h10, wt]
                  exact ⟨t, by omega, rfl, by omega, g * 10 + c, f1, f2, by rw [form]; exact FD⟩
            · intro hlt
              simp at hlt
              obtain rfl : p = 0 := by omega
              rw [Nat.pow_zero, Nat.mul_one] at hlo hhi FW
              have hroot : IsRoot x k g := ⟨hlo, hhi⟩
              have hgx : g ≤ x := by
                have : g ≤ g ^ k := Nat.le_self_pow (by omega) g
                omega
              have glt : g < 10 ^ L := by
                apply Classical.byContradiction
                intro hn
                have := Nat.pow_le_pow_left (show 10 ^ L ≤ g by omega) k
                rw [← Nat.pow_mul] at this
                omega
              have lg : (rdig g).length ≤ 399 := by rw [rdig_len]; exact Nat.le_trans (dig_len_mono hgx) lx'
              have FR := FW.read
              have rform := (show Rd _ encI 1 W root (rfd L g) from FR.p.1).sl.form
              simp [h9, psem_bld', fill, splice, rform.1, rform.2]
              refine WC.of (c453 Dt.d453 FR.wf FR.dn FR.p.1 (by rw [rfd_len]; omega)) ?_
              rintro r4 W4 ⟨fr4, s4, rfl, hs4⟩
              rw [rtrim_rfd glt] at hs4
              have sc4 := hs4.sl.form.1
              have G1 := (FR.callR fr4 (qs := [.rd encI 1 s4 (rdig g)]) ⟨hs4, trivial⟩).bx W4.next [.slc none 0 0 none, .bool false]
              obtain ⟨W5, u5, G2⟩ := G1.stA 0 rfl 2 [s4, .bool false] rfl rfl (by simp [sc4])
              have B13 : Box W5 W4.next W4.next _ := G2.o.1
              obtain ⟨n13, hn13⟩ : ∃ n, W4.next = n := ⟨_, rfl⟩
              rw [hn13] at u5 G2 B13
              simp [hn13, u5, h1, B13.all 2 rfl]
              refine WC.of (c471 Dt.d471 G2.wf G2.dn (x := (g : Int)) (n := k) ⟨s4, by rw [bel_nat], by rw [Int.natAbs_natCast]; exact G2.p.1⟩ (by rw [Int.natAbs_natCast]; omega) (by omega)) ?_
              rintro r5 W6 ⟨fr6, w, y, rfl, hw5, ly, hy⟩
              rw [Int.natAbs_natCast] at hy ⊢
              have hz := powN_has (m := g) (n := k) (x := x) (by omega) hlo
              rw [hz] at hy ⊢
              have ey := hy rfl
              obtain ⟨s5, rfl, sc5, hs5⟩ := hw5.box
              have G3 := (G2.callR fr6 (qs := [rdI s5 y]) ⟨hs5, trivial⟩).bx W6.next [.slc none 0 0 none, .bool false]
              obtain ⟨W7, u7, G4⟩ := G3.stA 0 rfl 2 [s5, .bool (bel y)] rfl rfl (by simp [sc5])
              obtain ⟨n14, hn14⟩ : ∃ n, W6.next = n := ⟨_, rfl⟩
              rw [hn14] at u7 G4
              have G5 := G4.pbs (qs := [rdI s5 y, .rd encI 1 s4 (rdig g), rdI s (x : Int)]) ⟨G4.p.1, G4.p.2.1, G4.p.2.2.2.1, trivial⟩
              have k14 : Box W7 n14 n14 _ := G5.o.1
              have k13 : Box W7 n13 n13 _ := G5.o.2.1
              have k8 : Box W7 n8 n8 _ := G5.o.2.2.1
              simp [hn14, u7]
              refine W_floats ?_
              simp only [WT_cons, WT_nil]
              simp [k13.all 2 rfl]
              refine WC.of (c455 Dt.d455 G5.wf G5.dn (z := (g : Int)) ⟨s4, by rw [bel_nat], by rw [Int.natAbs_natCast]; exact G5.p.2.1⟩ (by rw [Int.natAbs_natCast]; omega)) ?_
              rintro r8 W8 ⟨fr8, rfl⟩
              have G6 := G5.call fr8
              have l14 : Box W8 n14 n14 _ := G6.o.1
              have l8 : Box W8 n8 n8 _ := G6.o.2.2.1
              simp [h8, l14.all 2 rfl, l8.all 2 rfl]
              refine WC.of (c476 Dt.d476 G6.wf G6.dn (x := (x : Int)) (y := y) ⟨s, by rw [bel_nat], G6.p.2.2.1⟩ ⟨s5, rfl, G6.p.1⟩ (by rw [Int.natAbs_natCast]; omega) (by omega)) ?_
              rintro r9 W9 ⟨fr9, h9'⟩
              have G7 := G6.callR fr9 (qs := [.nv r9 _]) ⟨h9', trivial⟩
              have m14 : Box W9 n14 n14 _ := G7.o.1
              have m8 : Box W9 n8 n8 _ := G7.o.2.2.1
              have lsub := less_rlen (x := (x : Int)) (y := y) (k := 400) (by rw [Int.natAbs_natCast]; omega) ly
              simp
              refine WC.of (c455 Dt.d455 G7.wf G7.dn (z := (x : Int) - y) G7.p.1 (by omega)) ?_
              rintro r10 W10 ⟨fr10, rfl⟩
              have G8 := G7.call fr10
              simp [floatOk, wanted, AV.same_refl, h8, k14.all 2 rfl, k8.all 2 rfl, l14.all 2 rfl, l8.all 2 rfl, m14.all 2 rfl, m8.all 2 rfl]
              refine ⟨G8.fr, _, _, _, rfl, fun h => absurd he h, fun _ h => absurd h hok, fun _ _ => ⟨rfl, g, ?_, rfl, ?_⟩⟩
              · rw [hx, Int.natAbs_natCast]; exact hroot
              · rw [hx, Int.natAbs_natCast, Int.toNat_natCast, ey]
                congr 1
                rw [Int.natCast_sub hlo, Int.natCast_pow]
  · simp [e]
    exact ⟨F.fr, _, _, _, rfl, fun _ => ⟨rfl, rfl, rfl⟩, fun h => absurd h e, fun h => absurd h e⟩
end Go.Am

/- Numbers and their texts: there and back. What known asks. -/
set_option linter.unusedVariables false
set_option linter.unusedSimpArgs false
namespace Go.Am
variable {T : Tab}
/-- The digits, reckoned with a bound. -/
def dgF : Nat → Nat → List Int
  | 0, _ => []
  | k + 1, n => if n = 0 then [] else dgF k (n / 10) ++ [((n % 10 : Nat) : Int)]
theorem dig_dgF : ∀ (k n : Nat), n < 10 ^ k → dig n = dgF k n
  | 0, n, h => by
    have : n = 0 := by simp at h; exact h
    subst this; rw [dig_zero]; rfl
  | k + 1, n, h => by
    unfold dgF
    by_cases h0 : n = 0
    · subst h0; rw [dig_zero]; rfl
    · rw [if_neg h0, dig_pos h0, dig_dgF k (n / 10) (by rw [Nat.pow_succ] at h; omega)]
/-- A number's text, reckoned. -/
def showF (z : Int) : List UInt8 := if z = 0 then [48] else (if bel z then [45] else []) ++ (dgF 40 z.natAbs).map chS
theorem showS_F {z : Int} (h : z.natAbs < 10 ^ 40) : showS z = showF z := by unfold showS showF; rw [dig_dgF 40 _ h]
theorem bigZ_F {z : Int} (h : z.natAbs < 10 ^ 40) : bigZ z = false := by
  have := dig_len_le h
  unfold bigZ; simp; omega
theorem read_len {s : List UInt8} {z : Int} (h : readS s = some z) : s.length ≤ 401 := by
  obtain ⟨d, neg, hs, _, hd, _⟩ := readS_parts h
  rw [hs]
  cases neg <;> simp <;> omega
theorem errS_of {l : List (List UInt8)} (h : ∀ s ∈ l, ∃ z, readS s = some z) : errS l = 0 := by
  unfold errS numsS
  rw [if_neg, if_neg]
  · intro ha
    obtain ⟨s, hs, hn⟩ := List.any_eq_true.1 ha
    obtain ⟨z, hz⟩ := h s hs
    rw [hz] at hn; cases hn
  · intro ha
    obtain ⟨s, hs, hn⟩ := List.any_eq_true.1 ha
    obtain ⟨z, hz⟩ := h s hs
    have := read_len hz
    simp at hn; omega
theorem errS_in {l : List (List UInt8)} (h : errS l = 0) {s : List UInt8} (hs : s ∈ l) : readS s = some (rdS s) := by
  obtain ⟨z, hz⟩ := (errS_ok h).2 s hs
  unfold rdS; rw [hz]; rfl
/-- The numbers that known asks for. -/
theorem known_div : divS [45, 55] [50] = (0, [45, 52], [49]) := by
  have e : errS [[45, 55], [50]] = 0 := errS_of fun s hs => by
    simp at hs
    rcases hs with rfl | rfl
    · exact ⟨-7, by decide⟩
    · exact ⟨2, by decide⟩
  have r1 : rdS [45, 55] = -7 := by decide
  have r2 : rdS [50] = 2 := by decide
  have q : qd (-7) 2 = -4 := by decide
  have m : md (-7) 2 = 1 := by decide
  unfold divS outS2
  rw [e, if_pos rfl, r1, r2, if_neg (by decide), q, m, bigZ_F (by decide), bigZ_F (by decide), showS_F (by decide), showS_F (by decide)]
  decide
theorem known_gcd : gcdT [50, 52, 48] [52, 54] = (0, [50], [45, 57], [52, 55]) := by
  have e : errS [[50, 52, 48], [52, 54]] = 0 := errS_of fun s hs => by
    simp at hs
    rcases hs with rfl | rfl
    · exact ⟨240, by decide⟩
    · exact ⟨46, by decide⟩
  have r1 : rdS [50, 52, 48] = 240 := by decide
  have r2 : rdS [52, 54] = 46 := by decide
  have g : gcdS 240 46 = (2, -9, 47) := by decide
  unfold gcdT outS3
  rw [e, if_pos rfl, r1, r2, g]
  simp only
  rw [bigZ_F (by decide), bigZ_F (by decide), bigZ_F (by decide), showS_F (by decide), showS_F (by decide), showS_F (by decide)]
  decide
theorem known_frac : fracS [50] [51] 4 = (0, [48, 46, 54, 54, 54, 55]) := by
  have e : errS [[50], [51]] = 0 := errS_of fun s hs => by
    simp at hs
    rcases hs with rfl | rfl
    · exact ⟨2, by decide⟩
    · exact ⟨3, by decide⟩
  have r1 : rdS [50] = 2 := by decide
  have r2 : rdS [51] = 3 := by decide
  have f : fracN ((2 : Int).natAbs * 10 ^ (4 : Int).toNat) (3 : Int).natAbs = 6667 := by decide
  unfold fracS
  rw [e, if_pos rfl, r1, r2, if_neg (by decide), f]
  unfold fracT fracD
  rw [dig_dgF 40 6667 (by decide)]
  decide
theorem known_pow : powS [50] 100 = (0, [49,50,54,55,54,53,48,54,48,48,50,50,56,50,50,57,52,48,49,52,57,54,55,48,51,50,48,53,51,55,54]) := by
  have e : errS [[50]] = 0 := errS_of fun s hs => by
    simp at hs
    subst hs
    exact ⟨2, by decide⟩
  have r1 : rdS [50] = 2 := by decide
  have n1 : (2 : Int).natAbs = 2 := rfl
  have n2 : (100 : Int).toNat = 100 := rfl
  have p : powN 2 400 100 1 = some (1 * 2 ^ 100) := powN_some (by decide) (by have := dig_len_le (k := 40) (n := 1 * 2 ^ 100) (by decide); omega)
  have b : bel 2 = false := by decide
  unfold powS
  rw [e, if_pos rfl, if_neg (by decide), r1, n1, n2, p, b]
  simp only [Bool.false_and]
  rw [showS_F (by decide)]
  decide
theorem c411 (Dt : D411 T) {H : AHeap} (hw : WF H) {a : List UInt8} : Calls T 411 [.str a] H fun r H' => Fr H H' ∧ r = .bool (decide (5000 < a.length)) := by
  refine Calls.fn Dt.pr Dt.fn ?_
  simp [ir411]
  exact ⟨.refl hw, by omega⟩
theorem c412 (Dt : D412 T) {H : AHeap} (hw : WF H) : Calls T 412 [] H fun r H' => Fr H H' ∧ r = .bool true := by
  refine Calls.fn Dt.pr Dt.fn ?_
  have F := Fx.start hw (D := fun _ => False) (fun _ h => h.elim) (ps := []) trivial
  simp [ir412]
  refine WC.of (c416 Dt.d416 F.wf (a := [45, 55]) (b := [50]) (by decide) (by decide)) ?_
  rintro r1 X1 ⟨fr1, rfl⟩
  have F1 := F.call fr1
  rw [known_div]
  simp
  refine WC.of (c436 Dt.d436 F1.wf (a := [50, 52, 48]) (b := [52, 54]) (by decide) (by decide)) ?_
  rintro r2 X2 ⟨fr2, rfl⟩
  have F2 := F1.call fr2
  rw [known_gcd]
  simp
  refine WC.of (c414 Dt.d414 F2.wf (a := [50]) (b := [51]) (by decide) (by decide)) ?_
  rintro r3 X3 ⟨fr3, rfl⟩
  have F3 := F2.call fr3
  rw [known_frac]
  simp
  refine WC.of (c420 Dt.d420 F3.wf (a := [50]) (by decide)) ?_
  rintro r4 X4 ⟨fr4, rfl⟩
  have F4 := F3.call fr4
  rw [known_pow]
  simp
  exact F4.fr
end Go.Am
