/- Plain: operations of numbers within limits. -/
import Derived.Test.YtepgjaknkjkpaaaDoorAmWp
set_option linter.unusedVariables false
set_option linter.unusedSimpArgs false
namespace Go.Am

abbrev MN : Int := 9007199254740992
def inN (n : Int) : Prop := -9007199254740992 ≤ n ∧ n ≤ 9007199254740992
instance (n : Int) : Decidable (inN n) := by unfold inN; infer_instance
/-- A number, or that it is too great. -/
def lim (n : Int) : Int × Int := if inN n then (n, 0) else (0, 1)

theorem tdivM {y : Int} (h : 0 < y) : Int.tdiv 9007199254740992 y = 9007199254740992 / y := Int.tdiv_eq_ediv_of_nonneg (by omega)

theorem prod_big {a b : Int} (ha : a ≠ 0) (hb : b ≠ 0) : Int.tdiv 9007199254740992 (max b (-b)) < max a (-a) ↔ ¬ inN (a * b) := by
  have hx : 0 < max a (-a) := by omega
  have hy : 0 < max b (-b) := by omega
  rw [tdivM hy, Int.ediv_lt_iff_lt_mul hy]
  have e : max a (-a) * max b (-b) = a * b ∨ max a (-a) * max b (-b) = -(a * b) := by
    rcases Int.lt_or_gt_of_ne ha with h1 | h1 <;> rcases Int.lt_or_gt_of_ne hb with h2 | h2
    · left; rw [Int.max_eq_right (by omega), Int.max_eq_right (by omega), Int.neg_mul_neg]
    · right; rw [Int.max_eq_right (by omega), Int.max_eq_left (by omega), Int.neg_mul]
    · right; rw [Int.max_eq_left (by omega), Int.max_eq_right (by omega), Int.mul_neg]
    · left; rw [Int.max_eq_left (by omega), Int.max_eq_left (by omega)]
  have hp : 0 < max a (-a) * max b (-b) := Int.mul_pos hx hy
  unfold inN
  generalize max a (-a) * max b (-b) = p at *
  generalize a * b = q at *
  omega

/-- Quotient and remainder, rounded down. -/
def floorR (a b : Int) : Int × Int := if a.tmod b ≠ 0 ∧ (decide (a.tmod b < 0) != decide (b < 0)) = true then (a.tdiv b - 1, a.tmod b + b) else (a.tdiv b, a.tmod b)

theorem tmod_sign (a b : Int) : (0 ≤ a → 0 ≤ a.tmod b) ∧ (a ≤ 0 → a.tmod b ≤ 0) := by
  refine ⟨fun h => Int.tmod_nonneg b h, fun h => ?_⟩
  have h1 := Int.tmod_nonneg (a := -a) b (by omega)
  rw [Int.neg_tmod] at h1
  omega
theorem tmod_small {a b : Int} (hb : b ≠ 0) : (a.tmod b).natAbs < b.natAbs := by
  rw [Int.natAbs_tmod]
  exact Nat.mod_lt _ (by omega)
theorem tdiv_eqn (a b : Int) : b * a.tdiv b + a.tmod b = a := Int.mul_tdiv_add_tmod a b

theorem floorR_law {a b : Int} (hb : b ≠ 0) : b * (floorR a b).1 + (floorR a b).2 = a ∧ ((floorR a b).2 = 0 ∨ ((0 < (floorR a b).2 ↔ 0 < b) ∧ (floorR a b).2.natAbs < b.natAbs)) := by
  have h1 := tdiv_eqn a b
  have h2 := tmod_small (a := a) hb
  unfold floorR
  split
  · rename_i h
    obtain ⟨h3, h4⟩ := h
    have h4 : ¬ (decide (a.tmod b < 0) = decide (b < 0)) := by simpa using h4
    have h5 : ¬ ((a.tmod b < 0) ↔ (b < 0)) := fun h => h4 (by simp [h])
    refine ⟨?_, ?_⟩
    · simp only
      rw [Int.mul_sub, Int.mul_one]
      generalize b * a.tdiv b = p at *
      omega
    · simp only
      omega
  · rename_i h
    refine ⟨h1, ?_⟩
    simp only
    by_cases h3 : a.tmod b = 0
    · exact .inl h3
    · right
      have h4 : decide (a.tmod b < 0) = decide (b < 0) := by
        by_cases e : decide (a.tmod b < 0) = decide (b < 0)
        · exact e
        · exact absurd ⟨h3, by simpa using e⟩ h
      have h5 : (a.tmod b < 0) ↔ (b < 0) := by simpa using h4
      omega

/-- The document's quotient is the one rounded down. -/
theorem quot_eq {a b : Int} (hb : b ≠ 0) : (if a.tdiv b * b ≠ a ∧ (decide (a < 0) != decide (b < 0)) = true then a.tdiv b - 1 else a.tdiv b) = (floorR a b).1 := by
  have h1 := tdiv_eqn a b
  have h2 := tmod_small (a := a) hb
  obtain ⟨s1, s2⟩ := tmod_sign a b
  unfold floorR
  have e : (a.tdiv b * b ≠ a ∧ (decide (a < 0) != decide (b < 0)) = true) ↔ (a.tmod b ≠ 0 ∧ (decide (a.tmod b < 0) != decide (b < 0)) = true) := by
    rw [Int.mul_comm (a.tdiv b) b]
    generalize b * a.tdiv b = p at *
    simp only [bne_iff_ne, ne_eq, decide_eq_decide]
    constructor
    · rintro ⟨h3, h4⟩
      refine ⟨by omega, fun h5 => h4 ?_⟩
      omega
    · rintro ⟨h3, h4⟩
      refine ⟨by omega, fun h5 => h4 ?_⟩
      omega
  by_cases h : a.tmod b ≠ 0 ∧ (decide (a.tmod b < 0) != decide (b < 0)) = true
  · rw [if_pos h, if_pos (e.2 h)]
  · rw [if_neg h, if_neg (fun x => h (e.1 x))]

theorem floorR_small {a b : Int} (hb : b ≠ 0) : (floorR a b).1.natAbs ≤ a.natAbs + 1 ∧ (floorR a b).2.natAbs < b.natAbs := by
  have h1 : (a.tdiv b).natAbs = a.natAbs / b.natAbs := Int.natAbs_tdiv a b
  have h2 := tmod_small (a := a) hb
  have h3 : a.natAbs / b.natAbs ≤ a.natAbs := Nat.div_le_self _ _
  unfold floorR
  split
  · rename_i h
    obtain ⟨h4, h5⟩ := h
    have h5 : ¬ (decide (a.tmod b < 0) = decide (b < 0)) := by simpa using h5
    have h5 : ¬ ((a.tmod b < 0) ↔ (b < 0)) := fun h => h5 (by simp [h])
    simp only
    omega
  · simp only
    omega

/-- Powers, step by step. -/
def powL (a : Int) : Nat → Int → Int × Int
  | 0, n => (n, 0)
  | k + 1, n => if inN (n * a) then powL a k (n * a) else (0, 1)
def powR (a b : Int) : Int × Int :=
  if b < 0 then (0, 1) else
  if a = 0 then (if b = 0 then (1, 0) else (0, 0)) else
  if a = 1 then (1, 0) else
  if a = -1 then (1 - 2 * b.tmod 2, 0) else powL a b.toNat 1

/-- Bit by bit. -/
def bitN (op : Int) (x y : Nat) : Nat := if op = 6 then x &&& y else if op = 7 then x ||| y else x ^^^ y
def doR (op a b : Int) : Int × Int × Int :=
  if op < 0 ∨ 8 < op ∨ ¬ inN a ∨ ¬ inN b then (0, 0, 1) else
  let p := if op = 0 then lim (a + b) else if op = 1 then lim (a - b) else if op = 2 then lim (a * b)
    else if op = 3 then (if b = 0 then (0, 2) else lim (floorR a b).1) else if op = 4 then (if b = 0 then (0, 2) else lim (floorR a b).2)
    else if op = 5 then powR a b else if a < 0 ∨ b < 0 then (0, 1) else lim (bitN op a.toNat b.toNat)
  (p.1, p.2, 0)

def bitC (op : Int) (x y : Bool) : Bool := if op = 6 then x && y else if op = 7 then x || y else (x != y)
theorem bitN_test (op : Int) (x y i : Nat) : (bitN op x y).testBit i = bitC op (x.testBit i) (y.testBit i) := by
  unfold bitN bitC
  split
  · rw [Nat.testBit_and]
  · split
    · rw [Nat.testBit_or]
    · rw [Nat.testBit_xor]
theorem bitN_step (op : Int) (x y k : Nat) : bitN op x y % 2 ^ (k + 1) = bitN op x y % 2 ^ k + (if bitC op (x.testBit k) (y.testBit k) = true then 2 ^ k else 0) := by
  rw [Nat.mod_pow_succ, ← bitN_test, Nat.testBit_eq_decide_div_mod_eq]
  have h2 : bitN op x y / 2 ^ k % 2 < 2 := Nat.mod_lt _ (by omega)
  by_cases h : bitN op x y / 2 ^ k % 2 = 1
  · simp [h]
  · have : bitN op x y / 2 ^ k % 2 = 0 := by omega
    simp [this]
theorem bitN_lt {op : Int} {x y n : Nat} (hx : x < 2 ^ n) (hy : y < 2 ^ n) : bitN op x y < 2 ^ n := by
  unfold bitN
  split
  · exact Nat.and_lt_two_pow _ hy
  · split
    · exact Nat.or_lt_two_pow hx hy
    · exact Nat.xor_lt_two_pow hx hy
theorem bit_of (x i : Nat) : ((x : Int).tdiv ((2 ^ i : Nat) : Int)).tmod 2 = if x.testBit i = true then 1 else 0 := by
  have e1 : (x : Int).tdiv ((2 ^ i : Nat) : Int) = ((x / 2 ^ i : Nat) : Int) := by
    rw [Int.tdiv_eq_ediv_of_nonneg (Int.natCast_nonneg _), Int.natCast_ediv]
  have e2 : ((x / 2 ^ i : Nat) : Int).tmod 2 = ((x / 2 ^ i % 2 : Nat) : Int) := by
    rw [Int.tmod_eq_emod_of_nonneg (Int.natCast_nonneg _), Int.natCast_emod]; rfl
  rw [e1, e2, Nat.testBit_eq_decide_div_mod_eq]
  have h2 : x / 2 ^ i % 2 < 2 := Nat.mod_lt _ (by omega)
  by_cases h : x / 2 ^ i % 2 = 1
  · simp [h]
  · have : x / 2 ^ i % 2 = 0 := by omega
    simp [this]
end Go.Am
