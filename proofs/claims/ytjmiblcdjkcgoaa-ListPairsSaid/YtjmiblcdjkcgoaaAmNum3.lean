/- Contracts: the document's operations of numbers. -/
import Derived.Test.YtjmiblcdjkcgoaaAmNum2
set_option linter.unusedVariables false
set_option linter.unusedSimpArgs false
namespace Go.Am
variable {T : Tab}

theorem c194 (D : D194 T) {H : AHeap} {n : Int} (h0 : -9223372036854775808 < n) (h1 : n < 9223372036854775808) : Calls T 194 [.int .i64 n] H fun r H' => H' = H ∧ r = .int .i64 (max n (-n)) := by
  refine Calls.fn D.pr D.fn ?_
  by_cases h : n < 0
  · simp (disch := omega) [ir194, h, wrap64]; omega
  · simp [ir194, h]; omega

theorem limBig : lim 9007199254740993 = (0, 1) := by simp [lim, inN]
@[simp] theorem wrapz : IntKind.i64.wrap 0 = 0 := rfl
@[simp] theorem wrapz1 : IntKind.i64.wrap 1 = 1 := rfl
@[simp] theorem wrapz2 : IntKind.i64.wrap 2 = 2 := rfl

theorem divM {a : Int} (h : a ≠ 0) : IntKind.i64.wrap (Int.tdiv 9007199254740992 (max a (-a))) = Int.tdiv 9007199254740992 (max a (-a)) ∧ 0 ≤ Int.tdiv 9007199254740992 (max a (-a)) ∧ Int.tdiv 9007199254740992 (max a (-a)) ≤ 9007199254740992 := by
  have hmax : 0 < max a (-a) := by omega
  rw [tdivM hmax]
  have h3 : 0 ≤ (9007199254740992 : Int) / max a (-a) := Int.ediv_nonneg (by omega) (by omega)
  have h4 : (9007199254740992 : Int) / max a (-a) ≤ 9007199254740992 := Int.ediv_le_self _ (by omega)
  exact ⟨wrap64 (by omega) (by omega), h3, h4⟩

theorem c180 (D : D180 T) {H : AHeap} {a b : Int} (ha : inN a) (hb : inN b) : Calls T 180 [.int .i64 a, .int .i64 b] H fun r H' => H' = H ∧ ∃ p, r = .int .i64 p ∧ lim p = lim (a * b) := by
  refine Calls.fn D.pr D.fn ?_
  have ha' := ha
  have hb' := hb
  unfold inN at ha' hb'
  by_cases h1 : a = 0
  · subst h1; simp [ir180, lim]
  simp [ir180, h1]
  refine WC.of (c194 D.d194 (by omega) (by omega)) ?_
  rintro r H ⟨rfl, rfl⟩
  simp [h1]
  refine WC.of (c194 D.d194 (by omega) (by omega)) ?_
  rintro r H ⟨rfl, rfl⟩
  obtain ⟨q1, q2, q3⟩ := divM h1
  have hz : ¬ max a (-a) = 0 := by omega
  by_cases h2 : b = 0
  · subst h2
    simp [hz, q1, lim, show ¬ Int.tdiv 9007199254740992 (max a (-a)) < 0 by omega]
  have hp := prod_big h2 h1
  rw [Int.mul_comm b a] at hp
  by_cases h3 : inN (a * b)
  · have h4 : ¬ Int.tdiv 9007199254740992 (max a (-a)) < max b (-b) := fun h => (hp.1 h) h3
    have wm : IntKind.i64.wrap (a * b) = a * b := by unfold inN at h3; exact wrap64 (by omega) (by omega)
    simp [hz, q1, h4, wm]
  · have e2 : lim (a * b) = (0, 1) := by simp [lim, h3]
    simp [hz, q1, hp.2 h3, limBig, e2]

theorem c181 (D : D181 T) {H : AHeap} {a b : Int} (ha : inN a) (hb : inN b) (h0 : b ≠ 0) : Calls T 181 [.int .i64 a, .int .i64 b] H fun r H' => H' = H ∧ r = .int .i64 (floorR a b).1 := by
  refine Calls.fn D.pr D.fn ?_
  have h1 := tmod_small (a := a) h0
  have h2 : (a.tdiv b).natAbs = a.natAbs / b.natAbs := Int.natAbs_tdiv a b
  have h3 : a.natAbs / b.natAbs ≤ a.natAbs := Nat.div_le_self _ _
  have h4 := tdiv_eqn a b
  rw [Int.mul_comm] at h4
  unfold inN at ha hb
  rw [← quot_eq h0]
  obtain ⟨q, hq⟩ : ∃ q, a.tdiv b = q := ⟨_, rfl⟩
  rw [hq] at h2 h4
  rw [hq]
  obtain ⟨p, hp⟩ : ∃ p, q * b = p := ⟨_, rfl⟩
  rw [hp] at h4
  rw [hp]
  have wp : IntKind.i64.wrap p = p := wrap64 (by omega) (by omega)
  by_cases c1 : p = a
  · simp (disch := omega) [ir181, h0, wrap64, hq, hp, wp, c1]
  · by_cases c2 : a < 0 <;> by_cases c3 : b < 0 <;> simp (disch := omega) [ir181, h0, wrap64, hq, hp, wp, c1, c2, c3]

theorem c182 (D : D182 T) {H : AHeap} {a b : Int} (ha : inN a) (hb : inN b) (h0 : 0 ≤ b) : Calls T 182 [.int .i64 a, .int .i64 b] H fun r H' => H' = H ∧ ∃ p, r = .int .i64 p ∧ lim p = powR a b := by
  refine Calls.fn D.pr D.fn ?_
  have ha' := ha
  have hb' := hb
  unfold inN at ha' hb'
  have h1 : ¬ b < 0 := by omega
  by_cases h2 : a = 0
  · subst h2
    by_cases h3 : b = 0 <;> simp [ir182, h1, h3, powR, lim, inN]
  by_cases h3 : a = 1
  · subst h3
    by_cases h3 : b = 0 <;> simp [ir182, h1, h3, powR, lim, inN]
  by_cases h4 : a = -1
  · subst h4
    have := tmod2 b (by omega)
    have e2 : lim (1 - 2 * b.tmod 2) = (1 - 2 * b.tmod 2, 0) := by unfold lim; rw [if_pos (by unfold inN; omega)]
    simp (disch := omega) [ir182, h1, powR, e2, wrap64]
  have e : powR a b = powL a b.toNat 1 := by unfold powR; rw [if_neg h1, if_neg h2, if_neg h3, if_neg h4]
  rw [e]
  simp [ir182, h2, h3, h4]
  refine W_loop (fun (i : Nat) e K => K = H ∧ e 0 = .int .i64 a ∧ e 1 = .int .i64 b ∧ ∃ j : Nat, i + j = b.toNat ∧ e 6 = .int .i64 j ∧ ∃ n, e 5 = .int .i64 n ∧ inN n ∧ n ≠ 0 ∧ powL a b.toNat 1 = powL a i n) id b.toNat ?_ ?_
  · exact ⟨rfl, by simp, by simp, 0, by simp, by simp, 1, by simp, by unfold inN; omega, by omega, rfl⟩
  · rintro i e H ⟨rfl, g0, g1, j, hj, g6, n, g5, hn, hnz, hp⟩
    have hn' := hn
    unfold inN at hn'
    simp [g1, g6]
    refine WB.bool ?_ ?_
    · intro hlt
      simp at hlt
      obtain ⟨i, rfl⟩ : ∃ m, i = m + 1 := ⟨i - 1, by omega⟩
      rw [powL] at hp
      obtain ⟨q1, q2, q3⟩ := divM h2
      have hz : ¬ max a (-a) = 0 := by omega
      have hbig := prod_big hnz h2
      simp [g0, g5]
      refine WC.of (c194 D.d194 (by omega) (by omega)) ?_
      rintro r H ⟨rfl, rfl⟩
      by_cases c1 : Int.tdiv 9007199254740992 (max a (-a)) < n
      · have h5 : ¬ inN (n * a) := hbig.1 (by omega)
        rw [if_neg h5] at hp
        simp [hz, q1, c1, hp, limBig]
      · simp [hz, q1, c1, g0, g5]
        refine WC.of (c194 D.d194 (by omega) (by omega)) ?_
        rintro r H ⟨rfl, rfl⟩
        have wn := wrap64 (n := -(Int.tdiv 9007199254740992 (max a (-a)))) (by omega) (by omega)
        by_cases c2 : n < -(Int.tdiv 9007199254740992 (max a (-a)))
        · have h5 : ¬ inN (n * a) := hbig.1 (by omega)
          rw [if_neg h5] at hp
          simp [hz, q1, wn, c2, hp, limBig]
        · have h5 : inN (n * a) := by
            apply Decidable.byContradiction
            intro h
            have := hbig.2 h
            omega
          rw [if_pos h5] at hp
          have wm : IntKind.i64.wrap (n * a) = n * a := by unfold inN at h5; exact wrap64 (by omega) (by omega)
          simp (disch := omega) [hz, q1, wn, c2, g0, g1, g5, g6, wm, wrap64]
          exact ⟨i, by omega, j + 1, by omega, by omega, h5, ⟨hnz, h2⟩, hp⟩
    · intro hlt
      simp at hlt
      have : i = 0 := by omega
      subst this
      simp [g5, hp, powL, lim, hn]

theorem c183 (D : D183 T) {H : AHeap} {op a b : Int} (hop : op = 6 ∨ op = 7 ∨ op = 8) (ha : inN a) (hb : inN b) (h1 : 0 ≤ a) (h2 : 0 ≤ b) : Calls T 183 [.int .i64 op, .int .i64 a, .int .i64 b] H fun r H' => H' = H ∧ r = .int .i64 (bitN op a.toNat b.toNat : Nat) := by
  refine Calls.fn D.pr D.fn ?_
  unfold inN at ha hb
  obtain ⟨x, rfl⟩ : ∃ x : Nat, a = x := ⟨a.toNat, by omega⟩
  obtain ⟨y, rfl⟩ : ∃ y : Nat, b = y := ⟨b.toNat, by omega⟩
  simp only [Int.toNat_natCast]
  simp [ir183]
  refine W_loop (fun (c : Nat) e K => K = H ∧ e 0 = .int .i64 op ∧ e 1 = .int .i64 x ∧ e 2 = .int .i64 y ∧ ∃ i : Nat, c + i = 54 ∧ e 8 = .int .i64 ((2 ^ i : Nat) : Int) ∧ e 7 = .int .i64 ((bitN op x y % 2 ^ i : Nat) : Int)) id 54 ?_ ?_
  · exact ⟨rfl, by simp, by simp, by simp, 0, by simp, by simp, by simp [Nat.mod_one]⟩
  · rintro c e H ⟨rfl, g0, g1, g2, i, hi, g8, g7⟩
    by_cases hlt : i < 54
    · have hb1 := bit_of x i
      have hb2 := bit_of y i
      have hst := bitN_step op x y i
      have hp1 : 2 ^ i ≤ 2 ^ 53 := Nat.pow_le_pow_right (by omega) (by omega)
      have hp0 : 1 ≤ 2 ^ i := Nat.one_le_two_pow
      have hps : 2 ^ (i + 1) = 2 ^ i * 2 := Nat.pow_succ 2 i
      have hm : bitN op x y % 2 ^ i < 2 ^ i := Nat.mod_lt _ (by omega)
      have hx : (x : Int).tdiv ((2 ^ i : Nat) : Int) = ((x / 2 ^ i : Nat) : Int) := by rw [Int.tdiv_eq_ediv_of_nonneg (Int.natCast_nonneg _), Int.natCast_ediv]
      have hy : (y : Int).tdiv ((2 ^ i : Nat) : Int) = ((y / 2 ^ i : Nat) : Int) := by rw [Int.tdiv_eq_ediv_of_nonneg (Int.natCast_nonneg _), Int.natCast_ediv]
      have hxl : x / 2 ^ i ≤ x := Nat.div_le_self _ _
      have hyl : y / 2 ^ i ≤ y := Nat.div_le_self _ _
      rw [hx] at hb1
      rw [hy] at hb2
      rw [hps] at hst
      generalize bitN op x y % 2 ^ i = N at *
      generalize x / 2 ^ i = X at *
      generalize y / 2 ^ i = Y at *
      obtain ⟨Q, hQ⟩ : ∃ Q : Nat, Q = 2 ^ (i + 1) := ⟨_, rfl⟩
      have hQP : Q = 2 ^ i * 2 := by rw [hQ, hps]
      rw [← hQP] at hst
      generalize 2 ^ i = P at *
      have hz : ¬ P = 0 := by omega
      have wN : IntKind.i64.wrap ((N : Int) + (P : Int)) = (N : Int) + P := wrap64 (by omega) (by omega)
      have hPQ : (P : Int) * 2 = Q := by omega
      have wP : IntKind.i64.wrap (Q : Int) = Q := wrap64 (by omega) (by omega)
      have wX : IntKind.i64.wrap (X : Int) = X := wrap64 (by omega) (by omega)
      have wY : IntKind.i64.wrap (Y : Int) = Y := wrap64 (by omega) (by omega)
      have fin : ∀ M : Int, M = ((bitN op x y % Q : Nat) : Int) → ∃ j, j < c ∧ ∃ k : Nat, j + k = 54 ∧ AV.int .i64 (Q : Int) = .int .i64 ((2 ^ k : Nat) : Int) ∧ AV.int .i64 M = .int .i64 ((bitN op x y % 2 ^ k : Nat) : Int) := by
        intro M hM
        exact ⟨c - 1, by omega, i + 1, by omega, by rw [hQ], by rw [hM, hQ]⟩
      generalize x.testBit i = tx at *
      generalize y.testBit i = ty at *
      rcases hop with rfl | rfl | rfl <;> cases tx <;> cases ty <;> simp [bitC] at hst hb1 hb2 <;>
        simp [-AV.int.injEq, g0, g1, g2, g7, g8, show ((P : Int) ≤ 9007199254740992) by omega, hx, hy, hz, wX, wY, wN, wP, hb1, hb2, hPQ] <;> exact fin _ (by omega)
    · have hi2 : i = 54 := by omega
      subst hi2
      have hlt2 := bitN_lt (op := op) (x := x) (y := y) (n := 54) (by omega) (by omega)
      rw [Nat.mod_eq_of_lt hlt2] at g7
      simp [g8, g7]
end Go.Am
