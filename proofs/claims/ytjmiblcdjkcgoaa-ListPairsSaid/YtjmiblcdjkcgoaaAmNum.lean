/- Contracts: operations of numbers, by their numbers. -/
import Derived.Test.YtjmiblcdjkcgoaaAmTexts
import Derived.Test.YtjmiblcdjkcgoaaAmNumP
set_option linter.unusedVariables false
set_option linter.unusedSimpArgs false
namespace Go.Am
variable {T : Tab}

theorem c185 (D : D185 T) {H : AHeap} {n : Int} : Calls T 185 [.int .i64 n] H fun r H' => H' = H ∧ r = .bool (decide (inN n)) := by
  refine Calls.fn D.pr D.fn ?_
  simp [ir185]
  by_cases h1 : -9007199254740992 ≤ n
  · simp [h1, inN]
  · simp [h1, inN]

theorem c165 (D : D165 T) {H : AHeap} {n : Int} : Calls T 165 [.int .i64 n] H fun r H' => H' = H ∧ r = .bool (decide (inN n)) := by
  refine Calls.fn D.pr D.fn ?_
  simp [ir165]
  by_cases h1 : -9007199254740992 ≤ n
  · simp [h1, inN]
  · simp [h1, inN]

/-- A result and why there is none. -/
abbrev pr2 (p : Int × Int) : AV := .tup [.int .i64 p.1, .int .i64 p.2]

theorem c196 (D : D196 T) {H : AHeap} {n : Int} : Calls T 196 [.int .i64 n] H fun r H' => H' = H ∧ r = pr2 (lim n) := by
  refine Calls.fn D.pr D.fn ?_
  simp [ir196]
  refine WC.of (c185 D.d185) ?_
  rintro r H ⟨rfl, rfl⟩
  by_cases h : inN n <;> simp [h, lim]

theorem c195 (D : D195 T) {H : AHeap} {a b : Int} (ha : inN a) (hb : inN b) : Calls T 195 [.int .i64 a, .int .i64 b] H fun r H' => H' = H ∧ r = pr2 (lim (a + b)) := by
  refine Calls.fn D.pr D.fn ?_
  unfold inN at ha hb
  simp (disch := omega) [ir195, wrap64]
  refine WC.of (c196 D.d196) ?_
  rintro r H ⟨rfl, rfl⟩
  simp

theorem c197 (D : D197 T) {H : AHeap} {a b : Int} (ha : inN a) (hb : inN b) : Calls T 197 [.int .i64 a, .int .i64 b] H fun r H' => H' = H ∧ r = pr2 (lim (a - b)) := by
  refine Calls.fn D.pr D.fn ?_
  unfold inN at ha hb
  simp (disch := omega) [ir197, wrap64]
  refine WC.of (c196 D.d196) ?_
  rintro r H ⟨rfl, rfl⟩
  simp

theorem c198 (D : D198 T) {H : AHeap} {a b : Int} (ha : inN a) (hb : inN b) : Calls T 198 [.int .i64 a, .int .i64 b] H fun r H' => H' = H ∧ r = pr2 (lim (a * b)) := by
  refine Calls.fn D.pr D.fn ?_
  have wa : IntKind.i64.wrap (-a) = -a := wrap64 (by unfold inN at ha; omega) (by unfold inN at ha; omega)
  have wb : IntKind.i64.wrap (-b) = -b := wrap64 (by unfold inN at hb; omega) (by unfold inN at hb; omega)
  by_cases h1 : a = 0
  · subst h1; simp [ir198, lim, inN]
  by_cases h2 : b = 0
  · subst h2; simp [ir198, h1, lim, inN]
  have hz : ¬ max b (-b) = 0 := by omega
  have hb2 := prod_big h1 h2
  have hmax : 0 < max b (-b) := by omega
  have hq : IntKind.i64.wrap (Int.tdiv 9007199254740992 (max b (-b))) = Int.tdiv 9007199254740992 (max b (-b)) := by
    rw [tdivM hmax]
    have h3 : 0 ≤ (9007199254740992 : Int) / max b (-b) := Int.ediv_nonneg (by omega) (by omega)
    have h4 : (9007199254740992 : Int) / max b (-b) ≤ 9007199254740992 := Int.ediv_le_self _ (by omega)
    exact wrap64 (by omega) (by omega)
  by_cases h3 : inN (a * b)
  · have h4 : ¬ Int.tdiv 9007199254740992 (max b (-b)) < max a (-a) := fun h => (hb2.1 h) h3
    have wm : IntKind.i64.wrap (a * b) = a * b := by unfold inN at h3; exact wrap64 (by omega) (by omega)
    simp [ir198, h1, h2, wa, wb, hz, hq, h4, wm, lim, h3]
  · simp [ir198, h1, h2, wa, wb, hz, hq, hb2.2 h3, lim, h3]

theorem c201 (D : D201 T) {H : AHeap} {a b : Int} (ha : inN a) (hb : inN b) (h0 : b ≠ 0) : Calls T 201 [.int .i64 a, .int .i64 b] H fun r H' => H' = H ∧ r = pr2 (floorR a b) := by
  refine Calls.fn D.pr D.fn ?_
  have h1 := tmod_small (a := a) h0
  have h2 : (a.tdiv b).natAbs = a.natAbs / b.natAbs := Int.natAbs_tdiv a b
  have h3 : a.natAbs / b.natAbs ≤ a.natAbs := Nat.div_le_self _ _
  unfold inN at ha hb
  unfold floorR
  obtain ⟨r, hr⟩ : ∃ r, a.tmod b = r := ⟨_, rfl⟩
  obtain ⟨q, hq⟩ : ∃ q, a.tdiv b = q := ⟨_, rfl⟩
  rw [hr] at h1
  rw [hq] at h2
  rw [hr, hq]
  by_cases c1 : r = 0
  · subst c1
    simp (disch := omega) [ir201, h0, wrap64, hr, hq]
  · by_cases c2 : r < 0 <;> by_cases c3 : b < 0 <;> simp (disch := omega) [ir201, h0, wrap64, hr, hq, c1, c2, c3]

theorem c200 (D : D200 T) {H : AHeap} {a b : Int} (ha : inN a) (hb : inN b) (h0 : b ≠ 0) : Calls T 200 [.int .i64 a, .int .i64 b] H fun r H' => H' = H ∧ r = .int .i64 (floorR a b).1 := by
  refine Calls.fn D.pr D.fn ?_
  simp [ir200]
  refine WC.of (c201 D.d201 ha hb h0) ?_
  rintro r H ⟨rfl, rfl⟩
  simp
theorem c202 (D : D202 T) {H : AHeap} {a b : Int} (ha : inN a) (hb : inN b) (h0 : b ≠ 0) : Calls T 202 [.int .i64 a, .int .i64 b] H fun r H' => H' = H ∧ r = .int .i64 (floorR a b).2 := by
  refine Calls.fn D.pr D.fn ?_
  simp [ir202]
  refine WC.of (c201 D.d201 ha hb h0) ?_
  rintro r H ⟨rfl, rfl⟩
  simp

theorem bits_val {op : Int} {a b : Int} (ha : inN a) (hb : inN b) (h1 : 0 ≤ a) (h2 : 0 ≤ b) : ((bitN op a.toNat b.toNat : Nat) : Int) < 18014398509481984 := by
  unfold inN at ha hb
  have := bitN_lt (op := op) (x := a.toNat) (y := b.toNat) (n := 54) (by omega) (by omega)
  omega

theorem ofI {a : Int} (h0 : 0 ≤ a) (h1 : a < 9223372036854775808) : (BitVec.ofInt 64 a).toNat = a.toNat := by
  rw [BitVec.toNat_ofInt, Int.emod_eq_of_lt h0 (by omega)]

theorem c205 (D : D205 T) {H : AHeap} {a b : Int} (ha : inN a) (hb : inN b) (h1 : 0 ≤ a) (h2 : 0 ≤ b) : Calls T 205 [.int .i64 a, .int .i64 b] H fun r H' => H' = H ∧ r = .int .i64 (bitN 6 a.toNat b.toNat : Nat) := by
  refine Calls.fn D.pr D.fn ?_
  have hl := bits_val (op := 6) ha hb h1 h2
  unfold inN at ha hb
  have e : (BitVec.ofInt IntKind.i64.bits a &&& BitVec.ofInt IntKind.i64.bits b).toNat = bitN 6 a.toNat b.toNat := by
    show (BitVec.ofInt 64 a &&& BitVec.ofInt 64 b).toNat = _
    rw [BitVec.toNat_and, ofI h1 (by omega), ofI h2 (by omega)]; rfl
  have w := wrap64 (n := ((bitN 6 a.toNat b.toNat : Nat) : Int)) (by omega) (by omega)
  simp [-BitVec.toNat_and, ir205, e, w]
theorem c206 (D : D206 T) {H : AHeap} {a b : Int} (ha : inN a) (hb : inN b) (h1 : 0 ≤ a) (h2 : 0 ≤ b) : Calls T 206 [.int .i64 a, .int .i64 b] H fun r H' => H' = H ∧ r = .int .i64 (bitN 7 a.toNat b.toNat : Nat) := by
  refine Calls.fn D.pr D.fn ?_
  have hl := bits_val (op := 7) ha hb h1 h2
  unfold inN at ha hb
  have e : (BitVec.ofInt IntKind.i64.bits a ||| BitVec.ofInt IntKind.i64.bits b).toNat = bitN 7 a.toNat b.toNat := by
    show (BitVec.ofInt 64 a ||| BitVec.ofInt 64 b).toNat = _
    rw [BitVec.toNat_or, ofI h1 (by omega), ofI h2 (by omega)]; rfl
  have w := wrap64 (n := ((bitN 7 a.toNat b.toNat : Nat) : Int)) (by omega) (by omega)
  simp [-BitVec.toNat_or, ir206, e, w]
theorem c207 (D : D207 T) {H : AHeap} {a b : Int} (ha : inN a) (hb : inN b) (h1 : 0 ≤ a) (h2 : 0 ≤ b) : Calls T 207 [.int .i64 a, .int .i64 b] H fun r H' => H' = H ∧ r = .int .i64 (bitN 8 a.toNat b.toNat : Nat) := by
  refine Calls.fn D.pr D.fn ?_
  have hl := bits_val (op := 8) ha hb h1 h2
  unfold inN at ha hb
  have e : (BitVec.ofInt IntKind.i64.bits a ^^^ BitVec.ofInt IntKind.i64.bits b).toNat = bitN 8 a.toNat b.toNat := by
    show (BitVec.ofInt 64 a ^^^ BitVec.ofInt 64 b).toNat = _
    rw [BitVec.toNat_xor, ofI h1 (by omega), ofI h2 (by omega)]; rfl
  have w := wrap64 (n := ((bitN 8 a.toNat b.toNat : Nat) : Int)) (by omega) (by omega)
  simp [-BitVec.toNat_xor, ir207, e, w]


theorem tmod2 (b : Int) (h : 0 ≤ b) : 0 ≤ b.tmod 2 ∧ b.tmod 2 < 2 := ⟨Int.tmod_nonneg 2 h, Int.tmod_lt_of_pos b (by omega)⟩

theorem c203 (D : D203 T) {H : AHeap} {a b : Int} (ha : inN a) (hb : inN b) : Calls T 203 [.int .i64 a, .int .i64 b] H fun r H' => H' = H ∧ r = pr2 (powR a b) := by
  refine Calls.fn D.pr D.fn ?_
  have hb' := hb
  unfold inN at hb'
  by_cases h1 : b < 0
  · simp [ir203, h1, powR]
  simp [ir203, h1]
  by_cases h2 : a = 0
  · subst h2
    by_cases h3 : b = 0 <;> simp [h1, h3, powR]
  by_cases h3 : a = 1
  · subst h3
    simp [h1, powR]
  by_cases h4 : a = -1
  · subst h4
    have := tmod2 b (by omega)
    simp (disch := omega) [h1, powR, wrap64]
  have e : powR a b = powL a b.toNat 1 := by unfold powR; rw [if_neg h1, if_neg h2, if_neg h3, if_neg h4]
  rw [e]
  simp [h2, h3, h4]
  refine W_loop (fun (i : Nat) e K => K = H ∧ e 0 = .int .i64 a ∧ e 23 = .int .i64 b ∧ ∃ j : Nat, i + j = b.toNat ∧ e 24 = .int .i64 j ∧ ∃ n, e 6 = .int .i64 n ∧ inN n ∧ powL a b.toNat 1 = powL a i n) id b.toNat ?_ ?_
  · exact ⟨rfl, by simp, by simp, 0, by simp, by simp, 1, by simp, by unfold inN; omega, rfl⟩
  · rintro i e H ⟨rfl, h0, h23, j, hj, h24, n, h6, hn, hp⟩
    simp [h23, h24]
    refine WB.bool ?_ ?_
    · intro hlt
      simp at hlt
      obtain ⟨i, rfl⟩ : ∃ m, i = m + 1 := ⟨i - 1, by omega⟩
      rw [powL] at hp
      simp [h0, h6]
      refine WC.of (c198 D.d198 hn ha) ?_
      rintro r H ⟨rfl, rfl⟩
      simp
      by_cases h5 : inN (n * a)
      · rw [if_pos h5] at hp
        simp (disch := omega) [lim, h5, h0, h23, h24, wrap64]
        exact ⟨i, by omega, j + 1, by omega, by omega, hp⟩
      · rw [if_neg h5] at hp
        simp [lim, h5, hp]
    · intro hlt
      simp at hlt
      have : i = 0 := by omega
      subst this
      simp [h6, hp, powL]
end Go.Am
