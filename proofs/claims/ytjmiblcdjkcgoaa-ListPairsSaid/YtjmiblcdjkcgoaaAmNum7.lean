/- The laws of rounding and of numbers with a radix. -/
import Derived.Test.YtjmiblcdjkcgoaaAmNum6
set_option linter.unusedVariables false
set_option linter.unusedSimpArgs false
namespace Go.Am
variable {T : Tab}

/-- To which multiple a number is rounded. -/
def roundR (n to : Int) : Int × Int :=
  if ¬ inN n ∨ to < 1 ∨ 9007199254740992 < to then (0, 1) else
  let m := if to ≤ 2 * (max n (-n)).tmod to then (max n (-n)).tdiv to * to + to else (max n (-n)).tdiv to * to
  if 9007199254740992 < m then (0, 3) else (if n < 0 then -m else m, 0)

theorem round_facts {k to : Int} (hk : 0 ≤ k) (ht : 1 ≤ to) : k.tdiv to * to + k.tmod to = k ∧ 0 ≤ k.tdiv to ∧ k.tdiv to ≤ k ∧ 0 ≤ k.tmod to ∧ k.tmod to < to ∧ 0 ≤ k.tdiv to * to := by
  have h1 := tdiv_eqn k to
  rw [Int.mul_comm] at h1
  have h2 : 0 ≤ k.tdiv to := Int.tdiv_nonneg hk (by omega)
  have h3 : k.tdiv to ≤ k := by
    rw [Int.tdiv_eq_ediv_of_nonneg hk]; exact Int.ediv_le_self _ hk
  exact ⟨h1, h2, h3, Int.tmod_nonneg to hk, Int.tmod_lt_of_pos k (by omega), Int.mul_nonneg h2 (by omega)⟩

theorem roundR_ok {n to q p m k : Int} (h1 : inN n) (h2 : ¬ to < 1) (h3 : ¬ 9007199254740992 < to) (hk : max n (-n) = k) (hq : k.tdiv to = q) (hp : q * to = p) (hm : k.tmod to = m) :
    roundR n to = if 9007199254740992 < (if to ≤ 2 * m then p + to else p) then (0, 3) else (if n < 0 then -(if to ≤ 2 * m then p + to else p) else (if to ≤ 2 * m then p + to else p), 0) := by
  unfold roundR
  rw [if_neg (by simp [h1]; omega)]
  simp only [hk, hq, hp, hm]

theorem c245 (D : D245 T) {H : AHeap} {n to : Int} : Calls T 245 [.int .i64 n, .int .i64 to] H fun r H' => H' = H ∧ r = pr2 (roundR n to) := by
  refine Calls.fn D.pr D.fn ?_
  simp [ir245]
  refine WC.of (c165 D.d165) ?_
  rintro r H ⟨rfl, rfl⟩
  by_cases h1 : inN n
  · by_cases h2 : to < 1
    · simp [h1, h2, roundR]
    by_cases h3 : 9007199254740992 < to
    · simp [h1, h2, h3, roundR]
    have h1' := h1
    unfold inN at h1'
    have hz : ¬ to = 0 := by omega
    simp [h1, h2, h3]
    refine WC.of (c194 D.d194 (by omega) (by omega)) ?_
    rintro r H ⟨rfl, rfl⟩
    obtain ⟨f1, f2, f3, f4, f5, f6⟩ := round_facts (k := max n (-n)) (to := to) (by omega) (by omega)
    obtain ⟨q, hq⟩ : ∃ q, (max n (-n)).tdiv to = q := ⟨_, rfl⟩
    obtain ⟨p, hp⟩ : ∃ p, q * to = p := ⟨_, rfl⟩
    obtain ⟨m, hm⟩ : ∃ m, (max n (-n)).tmod to = m := ⟨_, rfl⟩
    obtain ⟨k, hk⟩ : ∃ k, max n (-n) = k := ⟨_, rfl⟩
    rw [hq, hp, hm] at f1
    rw [hq] at f2 f3 f6
    rw [hp] at f6
    rw [hm] at f4 f5
    rw [hk] at hq hm f1 f3
    rw [roundR_ok h1 h2 h3 hk hq hp hm]
    have wp : IntKind.i64.wrap p = p := wrap64 (by omega) (by omega)
    simp (disch := omega) [hz, hk, hq, hp, wp, wrap64]
    by_cases c1 : to ≤ 2 * m
    · simp (disch := omega) [show to ≤ 2 * (k - p) by omega, c1, wrap64]
      by_cases c2 : 9007199254740992 < p + to
      · simp [c2]
      · by_cases c3 : n < 0 <;> simp (disch := omega) [c2, c3, wrap64]
    · simp (disch := omega) [show ¬ to ≤ 2 * (k - p) by omega, c1, wrap64]
      by_cases c2 : 9007199254740992 < p
      · simp [c2]
      · by_cases c3 : n < 0 <;> simp (disch := omega) [c2, c3, wrap64]
  · simp [h1, roundR]

theorem c246 (D : D246 T) {H : AHeap} {n to : Int} : Calls T 246 [.int .i64 n, .int .i64 to] H fun r H' => H' = H ∧ r = pr2 (roundR n to) := by
  refine Calls.fn D.pr D.fn ?_
  simp [ir246]
  refine WC.of (c185 D.d185) ?_
  rintro r H ⟨rfl, rfl⟩
  by_cases h1 : inN n
  · by_cases h2 : to < 1
    · simp [h1, h2, roundR]
    by_cases h3 : 9007199254740992 < to
    · simp [h1, h2, h3, roundR]
    have h1' := h1
    unfold inN at h1'
    have hz : ¬ to = 0 := by omega
    obtain ⟨f1, f2, f3, f4, f5, f6⟩ := round_facts (k := max n (-n)) (to := to) (by omega) (by omega)
    obtain ⟨q, hq⟩ : ∃ q, (max n (-n)).tdiv to = q := ⟨_, rfl⟩
    obtain ⟨p, hp⟩ : ∃ p, q * to = p := ⟨_, rfl⟩
    obtain ⟨m, hm⟩ : ∃ m, (max n (-n)).tmod to = m := ⟨_, rfl⟩
    obtain ⟨k, hk⟩ : ∃ k, max n (-n) = k := ⟨_, rfl⟩
    rw [hq, hp, hm] at f1
    rw [hq] at f2 f3 f6
    rw [hp] at f6
    rw [hm] at f4 f5
    rw [hk] at hq hm f1 f3
    rw [roundR_ok h1 h2 h3 hk hq hp hm]
    have hp1 : (q + 1) * to = p + to := by rw [Int.add_mul, hp, Int.one_mul]
    have hq1 : to ≤ 2 * m → q + 1 ≤ 9007199254740992 := by
      intro h
      rcases Int.lt_or_le 1 to with h4 | h4
      · have : q * 2 ≤ q * to := Int.mul_le_mul_of_nonneg_left (by omega) f2
        omega
      · omega
    have hto : inN to := by unfold inN; omega
    by_cases c3 : n < 0
    · have ek : -n = k := by omega
      simp (disch := omega) [h1, h2, h3, c3, ek, hz, hq, hm, wrap64]
      by_cases c1 : to ≤ 2 * m
      · have := hq1 c1
        simp (disch := omega) [show to - m ≤ m by omega, c1, wrap64]
        refine WC.of (c198 D.d198 (by unfold inN; omega) hto) ?_
        rintro r H ⟨rfl, rfl⟩
        rw [hp1]
        simp
        by_cases c2 : 9007199254740992 < p + to
        · simp [lim, inN, c2]
          simp [show ¬ (p + to ≤ 9007199254740992) by omega]
        · have : inN (p + to) := by unfold inN; omega
          simp (disch := omega) [lim, this, c2, wrap64]
      · simp (disch := omega) [show ¬ to - m ≤ m by omega, c1, wrap64]
        refine WC.of (c198 D.d198 (by unfold inN; omega) hto) ?_
        rintro r H ⟨rfl, rfl⟩
        rw [hp]
        have : inN p := by unfold inN; omega
        have c2 : ¬ 9007199254740992 < p := by omega
        simp
        simp (disch := omega) [lim, this, c2, wrap64]
    · have ek : n = k := by omega
      subst ek
      simp (disch := omega) [h1, h2, h3, c3, hz, hq, hm, wrap64]
      by_cases c1 : to ≤ 2 * m
      · have := hq1 c1
        simp (disch := omega) [show to - m ≤ m by omega, c1, wrap64]
        refine WC.of (c198 D.d198 (by unfold inN; omega) hto) ?_
        rintro r H ⟨rfl, rfl⟩
        rw [hp1]
        simp
        by_cases c2 : 9007199254740992 < p + to
        · simp [lim, inN, c2]
          simp [show ¬ (p + to ≤ 9007199254740992) by omega]
        · have : inN (p + to) := by unfold inN; omega
          simp (disch := omega) [lim, this, c2, wrap64]
      · simp (disch := omega) [show ¬ to - m ≤ m by omega, c1, wrap64]
        refine WC.of (c198 D.d198 (by unfold inN; omega) hto) ?_
        rintro r H ⟨rfl, rfl⟩
        rw [hp]
        have : inN p := by unfold inN; omega
        have c2 : ¬ 9007199254740992 < p := by omega
        simp
        simp (disch := omega) [lim, this, c2, wrap64]
  · simp [h1, roundR]

theorem c236 (D : D236 T) {H : AHeap} (hw : WF H) {n to : Int} : Calls T 236 [.int .i64 n, .int .i64 to] H fun r _ => r = .bool true := by
  refine Calls.fn D.pr D.fn ?_
  simp [ir236]
  refine WC.of (c245 D.d245) ?_
  rintro r H ⟨rfl, rfl⟩
  simp
  refine WC.of (c246 D.d246) ?_
  rintro r H ⟨rfl, rfl⟩
  simp
  refine WC.of (c241 D.d241 hw) ?_
  rintro r H' rfl
  simp

theorem law236 (D : D236 T) {K : AHeap} {as : List AV} (hw : WF K) (hg : Goods K [.int .i64, .int .i64] as) : Calls T 236 as K fun v _ => v = .bool true := by
  obtain ⟨a, r, rfl, g1, b, r2, rfl, g2, rfl⟩ := hg
  obtain ⟨a, rfl, _⟩ := g1.int
  obtain ⟨b, rfl, _⟩ := g2.int
  exact c236 D hw
end Go.Am
