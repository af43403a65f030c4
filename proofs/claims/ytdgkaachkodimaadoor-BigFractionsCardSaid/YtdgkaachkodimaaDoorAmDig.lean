/- Numbers as rows of decimal digits: the plain laws. -/
import Derived.Test.YtdgkaachkodimaaDoorAmLibs
set_option linter.unusedVariables false
set_option linter.unusedSimpArgs false
namespace Go.Am
/-- The digits of a number, the lowest one first. -/
def rdig (n : Nat) : List Int := if h : n = 0 then [] else ((n % 10 : Nat) : Int) :: rdig (n / 10)
termination_by n
decreasing_by exact Nat.div_lt_self (Nat.pos_of_ne_zero h) (by decide)
theorem rdig_zero : rdig 0 = [] := by rw [rdig]; simp
theorem rdig_pos {n : Nat} (h : n ≠ 0) : rdig n = ((n % 10 : Nat) : Int) :: rdig (n / 10) := by rw [rdig, dif_neg h]
def dig (n : Nat) : List Int := (rdig n).reverse
theorem dig_zero : dig 0 = [] := by simp [dig, rdig_zero]
theorem dig_pos {n : Nat} (h : n ≠ 0) : dig n = dig (n / 10) ++ [((n % 10 : Nat) : Int)] := by simp [dig, rdig_pos h]
theorem dig_len (n : Nat) : (dig n).length = (rdig n).length := by simp [dig]
theorem rdig_len_le : ∀ (k n : Nat), n < 10 ^ k → (rdig n).length ≤ k
  | 0, n, h => by simp at h; subst h; simp [rdig_zero]
  | k + 1, n, h => by
    by_cases h0 : n = 0
    · subst h0; simp [rdig_zero]
    · rw [rdig_pos h0, List.length_cons]
      have := rdig_len_le k (n / 10) (by rw [Nat.pow_succ] at h; omega)
      omega
theorem rdig_lt : ∀ (n : Nat), n < 10 ^ (rdig n).length := by
  intro n
  induction n using Nat.strongRecOn with
  | _ n ih =>
    by_cases h0 : n = 0
    · subst h0; simp [rdig_zero]
    · rw [rdig_pos h0, List.length_cons, Nat.pow_succ]
      have := ih (n / 10) (by omega)
      omega
theorem dig_len_le {k n : Nat} (h : n < 10 ^ k) : (dig n).length ≤ k := by rw [dig_len]; exact rdig_len_le k n h
theorem dig_lt (n : Nat) : n < 10 ^ (dig n).length := by rw [dig_len]; exact rdig_lt n
theorem dig_len_iff {k n : Nat} : (dig n).length ≤ k ↔ n < 10 ^ k := by
  constructor
  · intro h; exact Nat.lt_of_lt_of_le (dig_lt n) (Nat.pow_le_pow_right (by decide) h)
  · exact dig_len_le
theorem dig_len_mono {m n : Nat} (h : m ≤ n) : (dig m).length ≤ (dig n).length := dig_len_le (Nat.lt_of_le_of_lt h (dig_lt n))
theorem dig_nil {n : Nat} : dig n = [] ↔ n = 0 := by
  constructor
  · intro h
    have := dig_lt n
    rw [h] at this; simp at this; exact this
  · rintro rfl; exact dig_zero
/-- The digit at a place from the lowest one on. -/
theorem rdig_get : ∀ (i n : Nat), (rdig n).getD i 0 = ((n / 10 ^ i % 10 : Nat) : Int)
  | i, n => by
    induction i generalizing n with
    | zero =>
      by_cases h0 : n = 0
      · subst h0; simp [rdig_zero]
      · rw [rdig_pos h0]; simp
    | succ i ih =>
      by_cases h0 : n = 0
      · subst h0; simp [rdig_zero]
      · rw [rdig_pos h0, List.getD_cons_succ, ih, Nat.pow_succ, Nat.mul_comm, ← Nat.div_div_eq_div_mul]
theorem nth_dig {n i : Nat} (h : i < (dig n).length) : nth (dig n) (((dig n).length : Int) - 1 - i) = ((n / 10 ^ i % 10 : Nat) : Int) := by
  have hl := dig_len n
  unfold nth
  have e : (((dig n).length : Int) - 1 - (i : Int)).toNat = (dig n).length - 1 - i := by omega
  rw [e, ← rdig_get]
  unfold dig
  simp only [List.getD_eq_getElem?_getD, List.length_reverse]
  rw [List.getElem?_reverse (by omega)]
  have e2 : (rdig n).length - 1 - ((rdig n).length - 1 - i) = i := by omega
  rw [e2]
  rfl
theorem dig_beyond {n i : Nat} (h : (dig n).length ≤ i) : n / 10 ^ i % 10 = 0 := by
  have := dig_len_iff.1 h
  rw [Nat.div_eq_of_lt this]
/-! ### A number in a row of fixed length -/
/-- The lowest L digits of a number, the highest one first. -/
def fd (L n : Nat) : List Int := (List.range L).map fun i => ((n / 10 ^ (L - 1 - i) % 10 : Nat) : Int)
theorem fd_len (L n : Nat) : (fd L n).length = L := by simp [fd]
theorem fd_zero (L : Nat) : fd L 0 = List.replicate L 0 := by
  apply List.ext_getElem
  · simp [fd]
  · intro i h1 h2
    simp [fd]
theorem fd_succ (L n : Nat) : fd (L + 1) n = fd L (n / 10) ++ [((n % 10 : Nat) : Int)] := by
  unfold fd
  rw [List.range_succ, List.map_append]
  congr 1
  · apply List.map_congr_left
    intro i hi
    have hi : i < L := by simpa using hi
    have e : L + 1 - 1 - i = (L - 1 - i) + 1 := by omega
    rw [e, Nat.pow_succ, Nat.mul_comm, ← Nat.div_div_eq_div_mul]
  · simp
theorem fd_head (L n : Nat) : fd (L + 1) n = ((n / 10 ^ L % 10 : Nat) : Int) :: fd L n := by
  apply List.ext_getElem
  · simp [fd]
  · intro i h1 h2
    cases i with
    | zero => simp [fd]
    | succ i =>
      simp only [List.getElem_cons_succ]
      simp [fd]
      have : L - (i + 1) = L - 1 - i := by omega
      rw [this]
theorem dig_fd {n : Nat} : dig n = fd (dig n).length n := by
  induction n using Nat.strongRecOn with
  | _ n ih =>
    by_cases h0 : n = 0
    · subst h0; simp [dig_zero, fd]
    · have e := dig_pos h0
      have hl : (dig n).length = (dig (n / 10)).length + 1 := by rw [e]; simp
      rw [hl, fd_succ, ← ih (n / 10) (by omega)]
      exact e
/-- Without zeros at the beginning. -/
def trimZ : List Int → List Int
  | [] => []
  | d :: l => if d = 0 then trimZ l else d :: l
theorem trimZ_fd : ∀ (L n : Nat), n < 10 ^ L → trimZ (fd L n) = dig n
  | 0, n, h => by simp at h; subst h; simp [fd, trimZ, dig_zero]
  | L + 1, n, h => by
    rw [fd_head]
    have hq : n / 10 ^ L < 10 := by
      rw [Nat.div_lt_iff_lt_mul (Nat.pow_pos (by decide))]
      rw [Nat.pow_succ] at h; omega
    by_cases h0 : n / 10 ^ L = 0
    · have : n < 10 ^ L := by
        rcases Nat.div_eq_zero_iff.1 h0 with h1 | h1
        · exact absurd h1 (Nat.pos_iff_ne_zero.1 (Nat.pow_pos (by decide)))
        · exact h1
      rw [h0]
      simp only [trimZ, Nat.zero_mod, Int.natCast_zero, if_true]
      exact trimZ_fd L n this
    · have hne : ((n / 10 ^ L % 10 : Nat) : Int) ≠ 0 := by
        rw [Nat.mod_eq_of_lt hq]; omega
      rw [show trimZ (((n / 10 ^ L % 10 : Nat) : Int) :: fd L n) = ((n / 10 ^ L % 10 : Nat) : Int) :: fd L n by unfold trimZ; rw [if_neg hne]]
      rw [← fd_head]
      have hl : (dig n).length = L + 1 := by
        have h1 : (dig n).length ≤ L + 1 := dig_len_le h
        have h2 : ¬ (dig n).length ≤ L := by
          intro h3
          have := dig_len_iff.1 h3
          exact h0 (Nat.div_eq_of_lt this)
        omega
      rw [dig_fd (n := n), hl]
/-- One digit more, from below. -/
theorem fd_set {L S j : Nat} (hj : j < L) : (fd L (S % 10 ^ j)).set (L - 1 - j) ((S / 10 ^ j % 10 : Nat) : Int) = fd L (S % 10 ^ (j + 1)) := by
  apply List.ext_getElem
  · simp [fd]
  · intro i h1 h2
    have hi : i < L := by simpa [fd] using h2
    rw [List.getElem_set]
    split
    · rename_i e
      simp only [fd, List.getElem_map, List.getElem_range]
      have : L - 1 - i = j := by omega
      rw [this]
      congr 1
      have := Nat.mod_pow_succ (x := S) (b := 10) (k := j)
      rw [this, Nat.add_mul_div_left _ _ (Nat.pow_pos (by decide)), Nat.div_eq_of_lt (Nat.mod_lt _ (Nat.pow_pos (by decide))), Nat.zero_add, Nat.mod_mod]
    · rename_i e
      simp only [fd, List.getElem_map, List.getElem_range]
      congr 1
      have hne : L - 1 - i ≠ j := by omega
      obtain ⟨p, hp⟩ : ∃ p, L - 1 - i = p := ⟨_, rfl⟩
      rw [hp] at hne ⊢
      rcases Nat.lt_or_ge p j with hlt | hge
      · -- below
        have low : ∀ q, p < q → S % 10 ^ q / 10 ^ p % 10 = S / 10 ^ p % 10 := by
          intro q hq
          have e1 : 10 ^ q = 10 ^ p * 10 ^ (q - p) := by rw [← Nat.pow_add]; congr 1; omega
          rw [e1, Nat.mod_mul_right_div_self]
          have e2 : 10 ^ (q - p) = 10 * 10 ^ (q - p - 1) := by rw [← Nat.pow_succ']; congr 1; omega
          rw [e2, Nat.mod_mul_right_mod]
        rw [low j hlt, low (j + 1) (by omega)]
      · have hgt : j + 1 ≤ p := by omega
        have z : ∀ q, q ≤ p → S % 10 ^ q / 10 ^ p = 0 := by
          intro q hq
          exact Nat.div_eq_of_lt (Nat.lt_of_lt_of_le (Nat.mod_lt _ (Nat.pow_pos (by decide))) (Nat.pow_le_pow_right (by decide) hq))
        rw [z j hge, z (j + 1) hgt]
/-! ### Sums and differences, digit by digit -/
theorem add_digit (m n j : Nat) : (m / 10 ^ j % 10 + n / 10 ^ j % 10 + (m % 10 ^ j + n % 10 ^ j) / 10 ^ j) % 10 = (m + n) / 10 ^ j % 10 ∧
    (m / 10 ^ j % 10 + n / 10 ^ j % 10 + (m % 10 ^ j + n % 10 ^ j) / 10 ^ j) / 10 = (m % 10 ^ (j + 1) + n % 10 ^ (j + 1)) / 10 ^ (j + 1) := by
  have hp : 0 < 10 ^ j := Nat.pow_pos (by decide)
  have e1 := Nat.div_add_mod m (10 ^ j)
  have e2 := Nat.div_add_mod n (10 ^ j)
  have s : (m + n) / 10 ^ j = m / 10 ^ j + n / 10 ^ j + (m % 10 ^ j + n % 10 ^ j) / 10 ^ j := by
    conv => lhs; rw [← e1, ← e2]
    have : 10 ^ j * (m / 10 ^ j) + m % 10 ^ j + (10 ^ j * (n / 10 ^ j) + n % 10 ^ j) = (m % 10 ^ j + n % 10 ^ j) + 10 ^ j * (m / 10 ^ j + n / 10 ^ j) := by rw [Nat.mul_add]; omega
    rw [this, Nat.add_mul_div_left _ _ hp]; omega
  have t1 := Nat.mod_pow_succ (x := m) (b := 10) (k := j)
  have t2 := Nat.mod_pow_succ (x := n) (b := 10) (k := j)
  refine ⟨by rw [s]; omega, ?_⟩
  rw [t1, t2, Nat.pow_succ, ← Nat.div_div_eq_div_mul]
  congr 1
  have : m % 10 ^ j + 10 ^ j * (m / 10 ^ j % 10) + (n % 10 ^ j + 10 ^ j * (n / 10 ^ j % 10)) = (m % 10 ^ j + n % 10 ^ j) + 10 ^ j * (m / 10 ^ j % 10 + n / 10 ^ j % 10) := by rw [Nat.mul_add]; omega
  rw [this, Nat.add_mul_div_left _ _ hp]; omega
/-- What is owed. -/
def owed (m n j : Nat) : Nat := if m % 10 ^ j < n % 10 ^ j then 1 else 0
theorem sub_digit {m n : Nat} (h : n ≤ m) (j : Nat) :
    (if m / 10 ^ j % 10 < n / 10 ^ j % 10 + owed m n j then m / 10 ^ j % 10 + 10 - (n / 10 ^ j % 10 + owed m n j) else m / 10 ^ j % 10 - (n / 10 ^ j % 10 + owed m n j)) = (m - n) / 10 ^ j % 10 ∧
    owed m n (j + 1) = if m / 10 ^ j % 10 < n / 10 ^ j % 10 + owed m n j then 1 else 0 := by
  have hp : 0 < 10 ^ j := Nat.pow_pos (by decide)
  obtain ⟨d, rfl⟩ : ∃ d, m = d + n := ⟨m - n, by omega⟩
  rw [Nat.add_sub_cancel]
  have ha := add_digit d n j
  have t1 := Nat.mod_pow_succ (x := d + n) (b := 10) (k := j)
  have t2 := Nat.mod_pow_succ (x := n) (b := 10) (k := j)
  have c1 : (d % 10 ^ j + n % 10 ^ j) / 10 ^ j = owed (d + n) n j := by
    unfold owed
    have e3 := Nat.add_mod d n (10 ^ j)
    have l1 := Nat.mod_lt d hp
    have l2 := Nat.mod_lt n hp
    rcases Nat.lt_or_ge (d % 10 ^ j + n % 10 ^ j) (10 ^ j) with hc | hc
    · rw [Nat.div_eq_of_lt hc, e3, Nat.mod_eq_of_lt hc, if_neg (by omega)]
    · have : (d % 10 ^ j + n % 10 ^ j) / 10 ^ j = 1 := Nat.div_eq_of_lt_le (by omega) (by omega)
      rw [this, e3]
      have : (d % 10 ^ j + n % 10 ^ j) % 10 ^ j = d % 10 ^ j + n % 10 ^ j - 10 ^ j := by
        rw [Nat.mod_eq_sub_mod hc, Nat.mod_eq_of_lt (by omega)]
      rw [this, if_pos (by omega)]
  have l3 : (d + n) % 10 ^ j < 10 ^ j := Nat.mod_lt _ hp
  have l4 : n % 10 ^ j < 10 ^ j := Nat.mod_lt _ hp
  rw [c1] at ha
  obtain ⟨a1, a2⟩ := ha
  have o : owed (d + n) n j ≤ 1 := by unfold owed; split <;> omega
  have b1 : d / 10 ^ j % 10 < 10 := Nat.mod_lt _ (by decide)
  have b2 : n / 10 ^ j % 10 < 10 := Nat.mod_lt _ (by decide)
  have b3 : (d + n) / 10 ^ j % 10 < 10 := Nat.mod_lt _ (by decide)
  obtain ⟨x, hx⟩ : ∃ x, d / 10 ^ j % 10 = x := ⟨_, rfl⟩
  obtain ⟨y, hy⟩ : ∃ y, n / 10 ^ j % 10 = y := ⟨_, rfl⟩
  obtain ⟨z, hz⟩ : ∃ z, (d + n) / 10 ^ j % 10 = z := ⟨_, rfl⟩
  obtain ⟨c, hc⟩ : ∃ c, owed (d + n) n j = c := ⟨_, rfl⟩
  rw [hx, hy, hc, hz] at a1
  rw [hx] at b1
  rw [hy] at b2
  rw [hz] at b3
  rw [hc] at o
  rw [hx, hy, hz, hc]
  refine ⟨by split <;> omega, ?_⟩
  unfold owed at hc ⊢
  rw [t1, t2, hy, hz]
  have key : ((d + n) % 10 ^ j + 10 ^ j * z < n % 10 ^ j + 10 ^ j * y) ↔ z < y + c := by
    constructor
    · intro hlt
      apply Classical.byContradiction
      intro hn
      have hn : y + c ≤ z := by omega
      have : 10 ^ j * (y + c) ≤ 10 ^ j * z := Nat.mul_le_mul_left _ hn
      rw [Nat.mul_add] at this
      split at hc
      · subst hc; rw [Nat.mul_one] at this; omega
      · subst hc; simp at this; omega
    · intro hlt
      rcases Nat.lt_or_ge z y with h1 | h1
      · have : 10 ^ j * (z + 1) ≤ 10 ^ j * y := Nat.mul_le_mul_left _ (by omega)
        rw [Nat.mul_add, Nat.mul_one] at this
        omega
      · have : z = y := by omega
        subst this
        split at hc
        · omega
        · omega
  by_cases hk : z < y + c
  · rw [if_pos (key.2 hk), if_pos hk]
  · rw [if_neg (fun h => hk (key.1 h)), if_neg hk]
end Go.Am
