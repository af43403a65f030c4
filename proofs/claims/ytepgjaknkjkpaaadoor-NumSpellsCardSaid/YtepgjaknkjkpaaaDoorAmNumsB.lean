/- The laws of rounding and of numbers with a radix. -/
import Derived.Test.YtepgjaknkjkpaaaDoorAmNum6
set_option linter.unusedVariables false
set_option linter.unusedSimpArgs false
namespace Go.Am
variable {T : Tab}

/-- To which multiple a number is rounded. -/
def roundR (n to : Int) : Int × Int :=
  if ¬ inN n ∨ to < 1 ∨ 9007199254740992 < to then (0, 1) else
  let m := if to ≤ 2 * (max n (-n)).tmod to then (max n (-n)).tdiv to * to + to else (max n (-n)).tdiv to * to
  if 9007199254740992 < m then (0, 3) else (if n < 0 then -m else m, 0)

theorem round_facts {k to : Int} (hk : 0 ≤ k) (ht : 1 ≤ to) : k.tdiv to * to + k.tmod to = k ∧ 0 ≤ k.tdiv to ∧ k.tdiv to ≤ k ∧ 0 ≤ k.tmod to ∧ k.tmod to < to ∧ 0 ≤ k.tdiv to * to := by
  have h1 := tdiv_eqn k to
  rw [Int.mul_comm] at h1
  have h2 : 0 ≤ k.tdiv to := Int.tdiv_nonneg hk (by omega)
  have h3 : k.tdiv to ≤ k := by
    rw [Int.tdiv_eq_ediv_of_nonneg hk]; exact Int.ediv_le_self _ hk
  exact ⟨h1, h2, h3, Int.tmod_nonneg to hk, Int.tmod_lt_of_pos k (by omega), Int.mul_nonneg h2 (by omega)⟩

theorem roundR_ok {n to q p m k : Int} (h1 : inN n) (h2 : ¬ to < 1) (h3 : ¬ 9007199254740992 < to) (hk : max n (-n) = k) (hq : k.tdiv to = q) (hp : q * to = p) (hm : k.tmod to = m) :
    roundR n to = if 9007199254740992 < (if to ≤ 2 * m then p + to else p) then (0, 3) else (if n < 0 then -(if to ≤ 2 * m then p + to else p) else (if to ≤ 2 * m then p + to else p), 0) := by
  unfold roundR
  rw [if_neg (by simp [h1]; omega)]
  simp only [hk, hq, hp, hm]

theorem c245 (D : D245 T) {H : AHeap} {n to : Int} : Calls T 245 [.int .i64 n, .int .i64 to] H fun r H' => H' = H ∧ r = pr2 (roundR n to) := by
  refine Calls.fn D.pr D.fn ?_
  simp [ir245]
  refine WC.of (c165 D.d165) ?_
  rintro r H ⟨rfl, rfl⟩
  by_cases h1 : inN n
  · by_cases h2 : to < 1
    · simp [h1, h2, roundR]
    by_cases h3 : 9007199254740992 < to
    · simp [h1, h2, h3, roundR]
    have h1' := h1
    unfold inN at h1'
    have hz : ¬ to = 0 := by omega
    simp [h1, h2, h3]
    refine WC.of (c194 D.d194 (by omega) (by omega)) ?_
    rintro r H ⟨rfl, rfl⟩
    obtain ⟨f1, f2, f3, f4, f5, f6⟩ := round_facts (k := max n (-n)) (to := to) (by omega) (by omega)
    obtain ⟨q, hq⟩ : ∃ q, (max n (-n)).tdiv to = q := ⟨_, rfl⟩
    obtain ⟨p, hp⟩ : ∃ p, q * to = p := ⟨_, rfl⟩
    obtain ⟨m, hm⟩ : ∃ m, (max n (-n)).tmod to = m := ⟨_, rfl⟩
    obtain ⟨k, hk⟩ : ∃ k, max n (-n) = k := ⟨_, rfl⟩
    rw [hq, hp, hm] at f1
    rw [hq] at f2 f3 f6
    rw [hp] at f6
    rw [hm] at f4 f5
    rw [hk] at hq hm f1 f3
    rw [roundR_ok h1 h2 h3 hk hq hp hm]
    have wp : IntKind.i64.wrap p = p := wrap64 (by omega) (by omega)
    simp (disch := omega) [hz, hk, hq, hp, wp, wrap64]
    by_cases c1 : to ≤ 2 * m
    · simp (disch := omega) [show to ≤ 2 * (k - p) by omega, c1, wrap64]
      by_cases c2 : 9007199254740992 < p + to
      · simp [c2]
      · by_cases c3 : n < 0 <;> simp (disch := omega) [c2, c3, wrap64]
    · simp (disch := omega) [show ¬ to ≤ 2 * (k - p) by omega, c1, wrap64]
      by_cases c2 : 9007199254740992 < p
      · simp [c2]
      · by_cases c3 : n < 0 <;> simp (disch := omega) [c2, c3, wrap64]
  · simp [h1, roundR]

theorem c246 (D : D246 T) {H : AHeap} {n to : Int} : Calls T 246 [.int .i64 n, .int .i64 to] H fun r H' => H' = H ∧ r = pr2 (roundR n to) := by
  refine Calls.fn D.pr D.fn ?_
  simp [ir246]
  refine WC.of (c185 D.d185) ?_
  rintro r H ⟨rfl, rfl⟩
  by_cases h1 : inN n
  · by_cases h2 : to < 1
    · simp [h1, h2, roundR]
    by_cases h3 : 9007199254740992 < to
    · simp [h1, h2, h3, roundR]
    have h1' := h1
    unfold inN at h1'
    have hz : ¬ to = 0 := by omega
    obtain ⟨f1, f2, f3, f4, f5, f6⟩ := round_facts (k := max n (-n)) (to := to) (by omega) (by omega)
    obtain ⟨q, hq⟩ : ∃ q, (max n (-n)).tdiv to = q := ⟨_, rfl⟩
    obtain ⟨p, hp⟩ : ∃ p, q * to = p := ⟨_, rfl⟩
    obtain ⟨m, hm⟩ : ∃ m, (max n (-n)).tmod to = m := ⟨_, rfl⟩
    obtain ⟨k, hk⟩ : ∃ k, max n (-n) = k := ⟨_, rfl⟩
    rw [hq, hp, hm] at f1
    rw [hq] at f2 f3 f6
    rw [hp] at f6
    rw [hm] at f4 f5
    rw [hk] at hq hm f1 f3
    rw [roundR_ok h1 h2 h3 hk hq hp hm]
    have hp1 : (q + 1) * to = p + to := by rw [Int.add_mul, hp, Int.one_mul]
    have hq1 : to ≤ 2 * m → q + 1 ≤ 9007199254740992 := by
      intro h
      rcases Int.lt_or_le 1 to with h4 | h4
      · have : q * 2 ≤ q * to := Int.mul_le_mul_of_nonneg_left (by omega) f2
        omega
      · omega
    have hto : inN to := by unfold inN; omega
    by_cases c3 : n < 0
    · have ek : -n = k := by omega
      simp (disch := omega) [h1, h2, h3, c3, ek, hz, hq, hm, wrap64]
      by_cases c1 : to ≤ 2 * m
      · have := hq1 c1
        simp (disch := omega) [show to - m ≤ m by omega, c1, wrap64]
        refine WC.of (c198 D.d198 (by unfold inN; omega) hto) ?_
        rintro r H ⟨rfl, rfl⟩
        rw [hp1]
        simp
        by_cases c2 : 9007199254740992 < p + to
        · simp [lim, inN, c2]
          simp [show ¬ (p + to ≤ 9007199254740992) by omega]
        · have : inN (p + to) := by unfold inN; omega
          simp (disch := omega) [lim, this, c2, wrap64]
      · simp (disch := omega) [show ¬ to - m ≤ m by omega, c1, wrap64]
        refine WC.of (c198 D.d198 (by unfold inN; omega) hto) ?_
        rintro r H ⟨rfl, rfl⟩
        rw [hp]
        have : inN p := by unfold inN; omega
        have c2 : ¬ 9007199254740992 < p := by omega
        simp
        simp (disch := omega) [lim, this, c2, wrap64]
    · have ek : n = k := by omega
      subst ek
      simp (disch := omega) [h1, h2, h3, c3, hz, hq, hm, wrap64]
      by_cases c1 : to ≤ 2 * m
      · have := hq1 c1
        simp (disch := omega) [show to - m ≤ m by omega, c1, wrap64]
        refine WC.of (c198 D.d198 (by unfold inN; omega) hto) ?_
        rintro r H ⟨rfl, rfl⟩
        rw [hp1]
        simp
        by_cases c2 : 9007199254740992 < p + to
        · simp [lim, inN, c2]
          simp [show ¬ (p + to ≤ 9007199254740992) by omega]
        · have : inN (p + to) := by unfold inN; omega
          simp (disch := omega) [lim, this, c2, wrap64]
      · simp (disch := omega) [show ¬ to - m ≤ m by omega, c1, wrap64]
        refine WC.of (c198 D.d198 (by unfold inN; omega) hto) ?_
        rintro r H ⟨rfl, rfl⟩
        rw [hp]
        have : inN p := by unfold inN; omega
        have c2 : ¬ 9007199254740992 < p := by omega
        simp
        simp (disch := omega) [lim, this, c2, wrap64]
  · simp [h1, roundR]

theorem c236 (D : D236 T) {H : AHeap} (hw : WF H) {n to : Int} : Calls T 236 [.int .i64 n, .int .i64 to] H fun r _ => r = .bool true := by
  refine Calls.fn D.pr D.fn ?_
  simp [ir236]
  refine WC.of (c245 D.d245) ?_
  rintro r H ⟨rfl, rfl⟩
  simp
  refine WC.of (c246 D.d246) ?_
  rintro r H ⟨rfl, rfl⟩
  simp
  refine WC.of (c241 D.d241 hw) ?_
  rintro r H' rfl
  simp

theorem law236 (D : D236 T) {K : AHeap} {as : List AV} (hw : WF K) (hg : Goods K [.int .i64, .int .i64] as) : Calls T 236 as K fun v _ => v = .bool true := by
  obtain ⟨a, r, rfl, g1, b, r2, rfl, g2, rfl⟩ := hg
  obtain ⟨a, rfl, _⟩ := g1.int
  obtain ⟨b, rfl, _⟩ := g2.int
  exact c236 D hw
end Go.Am

/- The law of numbers with a radix. -/
set_option linter.unusedVariables false
set_option linter.unusedSimpArgs false
namespace Go.Am
variable {T : Tab}

theorem wrap8 {n : Int} (h0 : 0 ≤ n) (h1 : n < 256) : IntKind.u8.wrap n = n := by
  simp [IntKind.wrap, IntKind.bits, IntKind.signed]; omega

/-- The value of a digit; 99 for none. -/
def dv (c : UInt8) : Int :=
  if 48 ≤ (c.toNat : Int) ∧ (c.toNat : Int) ≤ 57 then c.toNat - 48 else if 97 ≤ (c.toNat : Int) ∧ (c.toNat : Int) ≤ 102 then c.toNat - 87 else if 65 ≤ (c.toNat : Int) ∧ (c.toNat : Int) ≤ 70 then c.toNat - 55 else 99
theorem dv_range (c : UInt8) : 0 ≤ dv c ∧ dv c ≤ 99 := by
  unfold dv
  split
  · omega
  · split
    · omega
    · split <;> omega

theorem c253 (D : D253 T) {H : AHeap} {c : UInt8} : Calls T 253 [.int .u8 c.toNat] H fun r H' => H' = H ∧ r = .int .i64 (dv c) := by
  refine Calls.fn D.pr D.fn ?_
  simp [ir253]
  refine WC.of (c215 D.d215) ?_
  rintro r H ⟨rfl, rfl⟩
  rw [digit_iff]
  unfold dv
  have hlt := u8_lt c
  obtain ⟨n, hn⟩ : ∃ n : Nat, c.toNat = n := ⟨_, rfl⟩
  rw [hn] at hlt ⊢
  by_cases h1 : 48 ≤ (n : Int) ∧ (n : Int) ≤ 57
  · simp (disch := omega) [h1, wrap8, wrap64]
  · simp [h1]
    by_cases h2 : 97 ≤ (n : Int)
    · by_cases h3 : (n : Int) ≤ 102
      · simp (disch := omega) [h2, h3, wrap8, wrap64]
        omega
      · by_cases h4 : (n : Int) ≤ 70
        · omega
        · simp [h2, h3, h4]
          by_cases h5 : (65 : Int) ≤ n <;> simp [h4, h5]
    · simp [h2]
      by_cases h4 : 65 ≤ (n : Int)
      · by_cases h5 : (n : Int) ≤ 70
        · simp (disch := omega) [h4, h5, wrap8, wrap64]
          omega
        · simp [h4, h5]
      · simp [h4]

theorem c255 (D : D255 T) {H : AHeap} {c : UInt8} {base : Int} (hb : base ≤ 16) : Calls T 255 [.int .u8 c.toNat, .int .i64 base] H fun r H' => H' = H ∧ r = .int .i64 (if dv c < base then dv c else -1) := by
  refine Calls.fn D.pr D.fn ?_
  simp [ir255]
  refine WC.of (c213 D.d213) ?_
  rintro r H ⟨rfl, rfl⟩
  rw [digit_iff]
  unfold dv
  have hlt := u8_lt c
  obtain ⟨n, hn⟩ : ∃ n : Nat, c.toNat = n := ⟨_, rfl⟩
  rw [hn] at hlt ⊢
  by_cases h1 : 48 ≤ (n : Int) ∧ (n : Int) ≤ 57
  · simp (disch := omega) [h1, wrap8, wrap64]
    by_cases hbn : (n : Int) - 48 < base
    · simp [hbn, show ¬ base ≤ (n : Int) - 48 by omega]
    · simp [hbn, show base ≤ (n : Int) - 48 by omega]
  · simp [h1]
    by_cases h2 : 97 ≤ (n : Int)
    · by_cases h3 : (n : Int) ≤ 102
      · have e : (n : Int) - 97 + 10 = n - 87 := by omega
        simp (disch := omega) [h2, h3, wrap8, wrap64, e]
        by_cases hbn : (n : Int) - 87 < base
        · simp [hbn, show ¬ base ≤ (n : Int) - 87 by omega]
        · simp [hbn, show base ≤ (n : Int) - 87 by omega]
      · have h5 : 65 ≤ (n : Int) := by omega
        have h4 : ¬ (n : Int) ≤ 70 := by omega
        simp [h2, h3, h4, h5, show ¬ (99 : Int) < base by omega]
        by_cases hb2 : base ≤ -1 <;> simp [hb2]
    · simp [h2]
      by_cases h4 : 65 ≤ (n : Int)
      · by_cases h5 : (n : Int) ≤ 70
        · have e : (n : Int) - 65 + 10 = n - 55 := by omega
          simp (disch := omega) [h4, h5, wrap8, wrap64, e]
          by_cases hbn : (n : Int) - 55 < base
          · simp [hbn, show ¬ base ≤ (n : Int) - 55 by omega]
          · simp [hbn, show base ≤ (n : Int) - 55 by omega]
        · simp [h4, h5, show ¬ (99 : Int) < base by omega]
          by_cases hb2 : base ≤ -1 <;> simp [hb2]
      · simp [h4, show ¬ (99 : Int) < base by omega]
        by_cases hb2 : base ≤ -1 <;> simp [hb2]

/-- Digits of a base with single signs between two of them. -/
def scan (base : Int) : List UInt8 → Int → Bool → Option Int
  | [], n, b => if b = true ∧ n ≤ 9007199254740992 then some n else none
  | c :: l, n, b =>
    if c = 95 then (if b = true then scan base l n false else none)
    else if dv c < base then scan base l (min (n * base + dv c) 9007199254740993) true else none

def radixR : List UInt8 → Option Int
  | 48 :: 120 :: r => scan 16 r 0 false
  | 48 :: 98 :: r => scan 2 r 0 false
  | 48 :: r => scan 8 r 0 true
  | l => scan 10 l 0 false
abbrev optV (o : Option Int) : AV := .tup [.int .i64 (o.getD 0), .bool o.isSome]

theorem sat_step {base n k : Int} (hb : base = 2 ∨ base = 8 ∨ base = 10 ∨ base = 16) (h0 : 0 ≤ n) (hk : 0 ≤ k) (hk2 : k < base) :
    min (min (n * base + k) 144115188075855872) 9007199254740993 = min (min n 9007199254740993 * base + k) 9007199254740993 := by
  rcases hb with rfl | rfl | rfl | rfl <;> omega

theorem drop_nth {s : List UInt8} {j : Nat} (h : j < s.length) : s.drop j = nth s (j : Int) :: s.drop (j + 1) := by
  have : nth s (j : Int) = s[j] := by simp [nth, List.getElem?_eq_getElem h]
  rw [this]; exact List.drop_eq_getElem_cons h

theorem u8_95 {c : UInt8} : ((c.toNat : Int) = 95) ↔ c = 95 := u8_eqk c 95 (by omega)

def DigOk (s : List UInt8) (base : Int) (lead : Bool) (n : Int) (ok : Bool) : Prop := (s ≠ [] ∨ lead = true) → (if ok = true then some n else none) = scan base s 0 lead
theorem DigOk.no {s : List UInt8} {base : Int} {lead : Bool} (h : (s ≠ [] ∨ lead = true) → scan base s 0 lead = none) : DigOk s base lead 0 false := fun hh => by rw [h hh]; rfl

theorem c251 (D : D251 T) {H : AHeap} {s : List UInt8} {base : Int} {lead : Bool} (hs : s.length < 2 ^ 62) (hb : base = 2 ∨ base = 8 ∨ base = 10 ∨ base = 16) :
    Calls T 251 [.str s, .int .i64 base, .bool lead] H fun r H' => H' = H ∧ ∃ n ok, r = .tup [.int .i64 n, .bool ok] ∧ DigOk s base lead n ok := by
  refine Calls.fn D.pr D.fn ?_
  simp [ir251]
  refine W_loop (fun (i : Nat) e K => K = H ∧ e 0 = .str s ∧ e 1 = .int .i64 base ∧ ∃ j : Nat, i + j = s.length ∧ e 10 = .int .i64 j ∧ ∃ (n : Int) (b : Bool), e 8 = .int .i64 n ∧ e 9 = .bool b ∧ 0 ≤ n ∧ n ≤ 144115188075855872 ∧
    ((s ≠ [] ∨ lead = true) → scan base s 0 lead = scan base (s.drop j) (min n 9007199254740993) b ∧ (j < s.length ∨ b = true))) id s.length ?_ ?_
  · refine ⟨rfl, by simp, by simp, 0, by simp, by simp, 0, lead, by simp, by simp, by omega, by omega, fun h => ⟨by rw [show min (0 : Int) 9007199254740993 = 0 by decide, List.drop_zero], ?_⟩⟩
    rcases h with h | h
    · left; exact List.length_pos_iff.2 h
    · exact .inr h
  · rintro i e H ⟨rfl, h0, h1, j, hj, h10, n, b, h8, h9, n0, n1, hsc⟩
    simp [h0, h10]
    refine WB.bool ?_ ?_
    · intro hlt
      simp at hlt
      have hne : s ≠ [] := by intro h; subst h; simp at hlt
      obtain ⟨hsc, _⟩ := hsc (.inl hne)
      have ed := drop_nth hlt
      rw [ed, scan] at hsc
      obtain ⟨c, hc⟩ : ∃ c, nth s (j : Int) = c := ⟨_, rfl⟩
      rw [hc] at hsc ed
      simp (disch := omega) [h0, h10, hlt, hc]
      by_cases c1 : c = 95
      · rw [if_pos c1] at hsc
        have k1 : (c.toNat : Int) = 95 := u8_95.2 c1
        cases b with
        | false =>
          simp at hsc
          simp [k1, h9]
          exact .no fun _ => hsc
        | true =>
          simp at hsc
          by_cases c2 : j + 1 = s.length
          · have e1 : s.drop (j + 1) = [] := List.drop_eq_nil_of_le (by omega)
            rw [e1, scan] at hsc
            simp at hsc
            simp (disch := omega) [k1, h9, h0, h10, wrap64, show (j : Int) + 1 = s.length by omega]
            exact .no fun _ => hsc
          · have hlt2 : j + 1 < s.length := by omega
            have ed2 := drop_nth hlt2
            obtain ⟨d, hd⟩ : ∃ d, nth s ((j + 1 : Nat) : Int) = d := ⟨_, rfl⟩
            have hd' : nth s ((j : Int) + 1) = d := by rw [← hd]; congr 1
            rw [hd] at ed2
            simp (disch := omega) [k1, h9, h0, h1, h10, wrap64, show ¬ (j : Int) + 1 = s.length by omega, show (j : Int) + 1 < s.length by omega, show (0 : Int) ≤ (j : Int) + 1 by omega, hd']
            refine WC.of (c255 D.d255 (by omega)) ?_
            rintro r H ⟨rfl, rfl⟩
            have hr := dv_range d
            by_cases c3 : dv d < base
            · simp (disch := omega) [c3, show ¬ dv d < 0 by omega, h0, h1, h8, h10, wrap64]
              refine ⟨i - 1, by omega, j + 1, by omega, by omega, n0, n1, fun _ => ⟨hsc, by first | exact .inl hlt2 | exact hlt2⟩⟩
            · have : scan base (s.drop (j + 1)) (min n 9007199254740993) false = none := by
                rw [ed2, scan]
                by_cases c4 : d = 95 <;> simp [c4, c3]
              rw [this] at hsc
              simp [c3]
              exact .no fun _ => hsc
      · rw [if_neg c1] at hsc
        have k1 : ¬ (c.toNat : Int) = 95 := fun h => c1 (u8_95.1 h)
        simp (disch := omega) [k1, h0, h1, h10, hlt, hc]
        refine WC.of (c255 D.d255 (by omega)) ?_
        rintro r H ⟨rfl, rfl⟩
        have hr := dv_range c
        by_cases c3 : dv c < base
        · rw [if_pos c3, ← sat_step hb n0 hr.1 c3] at hsc
          have hmul : 0 ≤ n * base ∧ n * base ≤ 2305843009213693952 := by rcases hb with rfl | rfl | rfl | rfl <;> omega
          obtain ⟨p, hp⟩ : ∃ p, n * base = p := ⟨_, rfl⟩
          rw [hp] at hsc hmul
          simp (disch := omega) [c3, show ¬ dv c < 0 by omega, h0, h1, h8, h10, hp, wrap64]
          exact ⟨i - 1, by omega, j + 1, by omega, by omega, by omega, by omega, fun _ => by simpa using hsc⟩
        · rw [if_neg c3] at hsc
          simp [c3]
          exact .no fun _ => hsc
    · intro hlt
      simp at hlt
      have key : (s ≠ [] ∨ lead = true) → scan base s 0 lead = if min n 9007199254740993 ≤ 9007199254740992 then some (min n 9007199254740993) else none := by
        intro h
        obtain ⟨h2, h3⟩ := hsc h
        have hbt : b = true := h3.resolve_left (by omega)
        rw [h2, List.drop_eq_nil_of_le (by omega), scan, hbt]
        simp
      by_cases h4 : n ≤ 9007199254740992
      · simp [h8, h4]
        intro h
        have hk := key h
        rw [if_pos (by omega), show min n 9007199254740993 = n by omega] at hk
        rw [hk]; rfl
      · simp [h8, h4]
        intro h
        have hk := key h
        rw [if_neg (by omega)] at hk
        rw [hk]; rfl

theorem c256 (D : D256 T) {H : AHeap} {s p : List UInt8} : Calls T 256 [.str s, .str p] H fun r H' => H' = H ∧ r = .bool (decide (s.take p.length = p)) := by
  refine Calls.fn D.pr D.fn ?_
  by_cases h : p.length ≤ s.length
  · simp [ir256, show (p.length : Int) ≤ s.length by omega]
  · have : ¬ s.take p.length = p := by
      intro e
      have := congrArg List.length e
      simp at this
      omega
    simp [ir256, show ¬ (p.length : Int) ≤ s.length by omega, this]

theorem c252 (D : D252 T) {H : AHeap} {s p : List UInt8} : Calls T 252 [.str s, .str p] H fun r H' => H' = H ∧ r = .bool (decide (s.take p.length = p)) := by
  refine Calls.fn D.pr D.fn ?_
  simp [ir252]
  refine WC.of (c256 D.d256) ?_
  rintro r H ⟨rfl, rfl⟩
  simp

theorem u8_48 {c : UInt8} : ((c.toNat : Int) = 48) ↔ c = 48 := u8_eqk c 48 (by omega)
theorem u8_120 {c : UInt8} : ((c.toNat : Int) = 120) ↔ c = 120 := u8_eqk c 120 (by omega)
theorem u8_98 {c : UInt8} : ((c.toNat : Int) = 98) ↔ c = 98 := u8_eqk c 98 (by omega)

theorem DigOk.opt {s : List UInt8} {base n : Int} {lead ok : Bool} (h : DigOk s base lead n ok) (hs : s ≠ [] ∨ lead = true) : (if ok = true then some n else none) = scan base s 0 lead := h hs

theorem radix_other {c : UInt8} {r : List UInt8} (h : c ≠ 48) : radixR (c :: r) = scan 10 (c :: r) 0 false := by
  unfold radixR
  split <;> first | rfl | (rename_i e; cases e; exact absurd rfl h)
theorem radix_oct {r : List UInt8} (h : ∀ d t, r = d :: t → d ≠ 120 ∧ d ≠ 98) : radixR (48 :: r) = scan 8 r 0 true := by
  unfold radixR
  split
  · rename_i t e; cases e; exact absurd rfl (h 120 t rfl).1
  · rename_i t e; cases e; exact absurd rfl (h 98 t rfl).2
  · rename_i t _ _ e; cases e; rfl
  · rename_i h3; exact absurd rfl (h3 r)

theorem c247 (D : D247 T) {H : AHeap} {s : List UInt8} (hs : s.length < 2 ^ 62) : Calls T 247 [.str s] H fun r H' => H' = H ∧ r = optV (radixR s) := by
  refine Calls.fn D.pr D.fn ?_
  have last : ∀ (n : Int) (ok : Bool) (o : Option Int), (if ok = true then some n else none) = o → (ok = true → o = some n) ∧ (ok = false → o = none) := by
    intro n ok o h; subst h; cases ok <;> simp
  cases s with
  | nil => simp [ir247, radixR, scan]
  | cons c r =>
    have e0 : nth (c :: r) 0 = c := nth_cons
    simp [ir247, e0]
    by_cases c1 : c = 48
    · subst c1
      cases r with
      | nil =>
        simp
        refine WC.of (c251 D.d251 (s := []) (base := 8) (lead := true) (by simp) (by simp)) ?_
        rintro r H ⟨rfl, n, ok, rfl, hd⟩
        obtain ⟨l1, l2⟩ := last n ok _ (hd.opt (.inr rfl))
        rw [radix_oct (by simp)]
        cases ok with
        | true => rw [l1 rfl]; simp
        | false => rw [l2 rfl]; simp
      | cons d t =>
        have e1 : nth (48 :: d :: t) 1 = d := rfl
        simp [e1]
        by_cases c2 : d = 120
        · subst c2
          simp [e1, show (1 : Int) < t.length + 1 + 1 by omega, show (2 : Int) ≤ t.length + 1 + 1 by omega]
          refine WC.of (c251 D.d251 (s := t) (base := 16) (lead := false) (by simp at hs; omega) (by simp)) ?_
          rintro r H ⟨rfl, n, ok, rfl, hd⟩
          have er : radixR (48 :: 120 :: t) = scan 16 t 0 false := rfl
          rw [er]
          cases t with
          | nil => cases ok <;> simp [scan]
          | cons x t =>
            obtain ⟨l1, l2⟩ := last n ok _ (hd.opt (.inl (by simp)))
            cases ok with
            | true => rw [l1 rfl]; simp [show (2 : Int) < t.length + 1 + 1 + 1 by omega]
            | false => rw [l2 rfl]; simp
        · by_cases c3 : d = 98
          · subst c3
            simp [e1, show (1 : Int) < t.length + 1 + 1 by omega, show (2 : Int) ≤ t.length + 1 + 1 by omega]
            refine WC.of (c251 D.d251 (s := t) (base := 2) (lead := false) (by simp at hs; omega) (by simp)) ?_
            rintro r H ⟨rfl, n, ok, rfl, hd⟩
            have er : radixR (48 :: 98 :: t) = scan 2 t 0 false := rfl
            rw [er]
            cases t with
            | nil => cases ok <;> simp [scan]
            | cons x t =>
              obtain ⟨l1, l2⟩ := last n ok _ (hd.opt (.inl (by simp)))
              cases ok with
              | true => rw [l1 rfl]; simp [show (2 : Int) < t.length + 1 + 1 + 1 by omega]
              | false => rw [l2 rfl]; simp
          · have k2 : ¬ (d.toNat : Int) = 120 := fun h => c2 (u8_120.1 h)
            have k3 : ¬ (d.toNat : Int) = 98 := fun h => c3 (u8_98.1 h)
            simp [e1, k2, k3, show (1 : Int) < t.length + 1 + 1 by omega, show (1 : Int) ≤ t.length + 1 + 1 by omega]
            refine WC.of (c251 D.d251 (s := d :: t) (base := 8) (lead := true) (by simp at hs ⊢; omega) (by simp)) ?_
            rintro r H ⟨rfl, n, ok, rfl, hd⟩
            obtain ⟨l1, l2⟩ := last n ok _ (hd.opt (.inr rfl))
            rw [radix_oct (by intro x y h; cases h; exact ⟨c2, c3⟩)]
            cases ok with
            | true => rw [l1 rfl]; simp
            | false => rw [l2 rfl]; simp
    · have k1 : ¬ (c.toNat : Int) = 48 := fun h => c1 (u8_48.1 h)
      simp [k1]
      refine WC.of (c251 D.d251 (s := c :: r) (base := 10) (lead := false) hs (by simp)) ?_
      rintro r2 H ⟨rfl, n, ok, rfl, hd⟩
      obtain ⟨l1, l2⟩ := last n ok _ (hd.opt (.inl (by simp)))
      rw [radix_other c1]
      cases ok with
      | true => rw [l1 rfl]; simp
      | false => rw [l2 rfl]; simp
end Go.Am

/- The law of numbers with a radix: the program's reader of digits. -/
set_option linter.unusedVariables false
set_option linter.unusedSimpArgs false
namespace Go.Am
variable {T : Tab}

def RadSt (s : List UInt8) (base : Int) (l : List UInt8) (n : Int) (last : UInt8) : Prop := ∃ b : Bool, 0 ≤ n ∧ n ≤ 9007199254740993 ∧ (last = 95 ↔ b = false) ∧ radixR s = scan base l n b

theorem c248 (D : D248 T) {H : AHeap} {s : List UInt8} (hs : s.length < 2 ^ 62) : Calls T 248 [.str s] H fun r H' => H' = H ∧ r = optV (radixR s) := by
  refine Calls.fn D.pr D.fn ?_
  simp [ir248]
  refine WC.of (c252 D.d252) ?_
  rintro r H ⟨rfl, rfl⟩
  by_cases h1 : s.take 2 = [48, 120]
  · obtain ⟨t, rfl⟩ : ∃ t, s = 48 :: 120 :: t := ⟨s.drop 2, by rw [← List.take_append_drop 2 s, h1]; rfl⟩
    have hrad : radixR (48 :: 120 :: t) = scan 16 t 0 false := rfl
    generalize hsv : 48 :: 120 :: t = s at *
    have hl : s.length = t.length + 2 := by rw [← hsv]; rfl
    have hdr : s.drop 2 = t := by rw [← hsv]; rfl
    simp [h1, hl, hdr, show (2 : Int) ≤ t.length + 2 by omega]
    refine W_loop (fun (i : Nat) e K => K = H ∧ e 4 = .int .i64 (16) ∧ e 0 = .str (t) ∧ e 24 = .int .i64 (t).length ∧ ∃ j : Nat, i + j = (t).length ∧ e 25 = .int .i64 j ∧ ∃ (n : Int) (last : UInt8), e 5 = .int .i64 n ∧ e 6 = .int .u8 last.toNat ∧ RadSt s (16) ((t).drop j) n last) id (t).length ?_ ?_
    · exact ⟨rfl, by simp [hdr], by simp [hdr], by simp [hdr], 0, by simp, by simp, 0, 95, by simp, by simp, false, by omega, by omega, by simp, by rw [hrad, List.drop_zero]⟩
    · generalize t = u at *
      rintro i e H ⟨rfl, g4, g0, g24, j, hj, g25, n, last, g5, g6, b, n0, n1, hlb, hsc⟩
      simp [g24, g25]
      refine WB.bool ?_ ?_
      · intro hlt
        simp at hlt
        have ed := drop_nth hlt
        rw [ed, scan] at hsc
        obtain ⟨c, hc⟩ : ∃ c, nth u (j : Int) = c := ⟨_, rfl⟩
        rw [hc] at hsc ed
        simp (disch := omega) [g0, g25, hlt, hc]
        by_cases c1 : c = 95
        · rw [if_pos c1] at hsc
          have k1 : (c.toNat : Int) = 95 := u8_95.2 c1
          cases b with
          | false =>
            have k2 : (last.toNat : Int) = 95 := u8_95.2 (hlb.2 rfl)
            simp at hsc
            simp [k1, g6, k2, hsc]
          | true =>
            have k2 : ¬ (last.toNat : Int) = 95 := fun h => by have := hlb.1 (u8_95.1 h); simp at this
            simp at hsc
            simp (disch := omega) [k1, g6, k2, g4, g0, g5, g24, g25, wrap64]
            have st : RadSt s (16) (u.drop (j + 1)) n 95 := ⟨false, n0, n1, by simp, hsc⟩
            exact ⟨i - 1, by omega, j + 1, by omega, by omega, 95, by rfl, st⟩
        · rw [if_neg c1] at hsc
          have k1 : ¬ (c.toNat : Int) = 95 := fun h => c1 (u8_95.1 h)
          simp [k1]
          refine WC.of (c253 D.d253) ?_
          rintro r H ⟨rfl, rfl⟩
          have hr := dv_range c
          by_cases c3 : dv c < 16
          · rw [if_pos c3] at hsc
            simp (disch := omega) [g4, g0, g5, g6, g24, g25, show ¬ 16 ≤ dv c by omega, wrap64]
            have st : RadSt s (16) (u.drop (j + 1)) (min (n * (16) + dv c) 9007199254740993) c := ⟨true, by omega, by omega, by simp [c1], hsc⟩
            exact ⟨i - 1, by omega, j + 1, by omega, by omega, c, rfl, st⟩
          · rw [if_neg c3] at hsc
            simp [g4, show 16 ≤ dv c by omega, hsc]
      · intro hlt
        simp at hlt
        rw [List.drop_eq_nil_of_le (by omega), scan] at hsc
        by_cases k2 : (last.toNat : Int) = 95
        · have : b = false := hlb.1 (u8_95.1 k2)
          rw [this] at hsc
          simp at hsc
          simp [g6, k2, hsc]
        · have hbt : b = true := by
            cases b with
            | true => rfl
            | false => exact absurd (u8_95.2 (hlb.2 rfl)) k2
          rw [hbt] at hsc
          simp at hsc
          by_cases c4 : 9007199254740992 < n
          · rw [if_neg (by omega)] at hsc
            simp [g6, k2, g5, c4, hsc]
          · rw [if_pos (by omega)] at hsc
            simp [g6, k2, g5, c4, hsc]
  · simp [h1]
    refine WC.of (c252 D.d252) ?_
    rintro r H ⟨rfl, rfl⟩
    by_cases h2 : s.take 2 = [48, 98]
    · obtain ⟨t, rfl⟩ : ∃ t, s = 48 :: 98 :: t := ⟨s.drop 2, by rw [← List.take_append_drop 2 s, h2]; rfl⟩
      have hrad : radixR (48 :: 98 :: t) = scan 2 t 0 false := rfl
      generalize hsv : 48 :: 98 :: t = s at *
      have hl : s.length = t.length + 2 := by rw [← hsv]; rfl
      have hdr : s.drop 2 = t := by rw [← hsv]; rfl
      simp [h2, hl, hdr, show (2 : Int) ≤ t.length + 2 by omega]
      refine W_loop (fun (i : Nat) e K => K = H ∧ e 4 = .int .i64 (2) ∧ e 0 = .str (t) ∧ e 24 = .int .i64 (t).length ∧ ∃ j : Nat, i + j = (t).length ∧ e 25 = .int .i64 j ∧ ∃ (n : Int) (last : UInt8), e 5 = .int .i64 n ∧ e 6 = .int .u8 last.toNat ∧ RadSt s (2) ((t).drop j) n last) id (t).length ?_ ?_
      · exact ⟨rfl, by simp [hdr], by simp [hdr], by simp [hdr], 0, by simp, by simp, 0, 95, by simp, by simp, false, by omega, by omega, by simp, by rw [hrad, List.drop_zero]⟩
      · generalize t = u at *
        rintro i e H ⟨rfl, g4, g0, g24, j, hj, g25, n, last, g5, g6, b, n0, n1, hlb, hsc⟩
        simp [g24, g25]
        refine WB.bool ?_ ?_
        · intro hlt
          simp at hlt
          have ed := drop_nth hlt
          rw [ed, scan] at hsc
          obtain ⟨c, hc⟩ : ∃ c, nth u (j : Int) = c := ⟨_, rfl⟩
          rw [hc] at hsc ed
          simp (disch := omega) [g0, g25, hlt, hc]
          by_cases c1 : c = 95
          · rw [if_pos c1] at hsc
            have k1 : (c.toNat : Int) = 95 := u8_95.2 c1
            cases b with
            | false =>
              have k2 : (last.toNat : Int) = 95 := u8_95.2 (hlb.2 rfl)
              simp at hsc
              simp [k1, g6, k2, hsc]
            | true =>
              have k2 : ¬ (last.toNat : Int) = 95 := fun h => by have := hlb.1 (u8_95.1 h); simp at this
              simp at hsc
              simp (disch := omega) [k1, g6, k2, g4, g0, g5, g24, g25, wrap64]
              have st : RadSt s (2) (u.drop (j + 1)) n 95 := ⟨false, n0, n1, by simp, hsc⟩
              exact ⟨i - 1, by omega, j + 1, by omega, by omega, 95, by rfl, st⟩
          · rw [if_neg c1] at hsc
            have k1 : ¬ (c.toNat : Int) = 95 := fun h => c1 (u8_95.1 h)
            simp [k1]
            refine WC.of (c253 D.d253) ?_
            rintro r H ⟨rfl, rfl⟩
            have hr := dv_range c
            by_cases c3 : dv c < 2
            · rw [if_pos c3] at hsc
              simp (disch := omega) [g4, g0, g5, g6, g24, g25, show ¬ 2 ≤ dv c by omega, wrap64]
              have st : RadSt s (2) (u.drop (j + 1)) (min (n * (2) + dv c) 9007199254740993) c := ⟨true, by omega, by omega, by simp [c1], hsc⟩
              exact ⟨i - 1, by omega, j + 1, by omega, by omega, c, rfl, st⟩
            · rw [if_neg c3] at hsc
              simp [g4, show 2 ≤ dv c by omega, hsc]
        · intro hlt
          simp at hlt
          rw [List.drop_eq_nil_of_le (by omega), scan] at hsc
          by_cases k2 : (last.toNat : Int) = 95
          · have : b = false := hlb.1 (u8_95.1 k2)
            rw [this] at hsc
            simp at hsc
            simp [g6, k2, hsc]
          · have hbt : b = true := by
              cases b with
              | true => rfl
              | false => exact absurd (u8_95.2 (hlb.2 rfl)) k2
            rw [hbt] at hsc
            simp at hsc
            by_cases c4 : 9007199254740992 < n
            · rw [if_neg (by omega)] at hsc
              simp [g6, k2, g5, c4, hsc]
            · rw [if_pos (by omega)] at hsc
              simp [g6, k2, g5, c4, hsc]
    · simp [h2]
      refine WC.of (c252 D.d252) ?_
      rintro r H ⟨rfl, rfl⟩
      by_cases h3 : s.take 1 = [48]
      · obtain ⟨t, rfl⟩ : ∃ t, s = 48 :: t := ⟨s.drop 1, by rw [← List.take_append_drop 1 s, h3]; rfl⟩
        have hrad : radixR (48 :: t) = scan 8 (48 :: t) 0 false := by
          rw [radix_oct (fun d y h => by
            subst h
            refine ⟨?_, ?_⟩
            · rintro rfl; exact h1 rfl
            · rintro rfl; exact h2 rfl)]
          rfl
        generalize hsv : 48 :: t = s at *
        simp [h3]
        refine W_loop (fun (i : Nat) e K => K = H ∧ e 4 = .int .i64 (8) ∧ e 0 = .str (s) ∧ e 24 = .int .i64 (s).length ∧ ∃ j : Nat, i + j = (s).length ∧ e 25 = .int .i64 j ∧ ∃ (n : Int) (last : UInt8), e 5 = .int .i64 n ∧ e 6 = .int .u8 last.toNat ∧ RadSt s (8) ((s).drop j) n last) id (s).length ?_ ?_
        · exact ⟨rfl, by simp [h3], by simp [h3], by simp [h3], 0, by simp, by simp, 0, 95, by simp, by simp, false, by omega, by omega, by simp, by rw [hrad, List.drop_zero]⟩
        · generalize s = u at *
          rintro i e H ⟨rfl, g4, g0, g24, j, hj, g25, n, last, g5, g6, b, n0, n1, hlb, hsc⟩
          simp [g24, g25]
          refine WB.bool ?_ ?_
          · intro hlt
            simp at hlt
            have ed := drop_nth hlt
            rw [ed, scan] at hsc
            obtain ⟨c, hc⟩ : ∃ c, nth u (j : Int) = c := ⟨_, rfl⟩
            rw [hc] at hsc ed
            simp (disch := omega) [g0, g25, hlt, hc]
            by_cases c1 : c = 95
            · rw [if_pos c1] at hsc
              have k1 : (c.toNat : Int) = 95 := u8_95.2 c1
              cases b with
              | false =>
                have k2 : (last.toNat : Int) = 95 := u8_95.2 (hlb.2 rfl)
                simp at hsc
                simp [k1, g6, k2, hsc]
              | true =>
                have k2 : ¬ (last.toNat : Int) = 95 := fun h => by have := hlb.1 (u8_95.1 h); simp at this
                simp at hsc
                simp (disch := omega) [k1, g6, k2, g4, g0, g5, g24, g25, wrap64]
                have st : RadSt u (8) (u.drop (j + 1)) n 95 := ⟨false, n0, n1, by simp, hsc⟩
                exact ⟨i - 1, by omega, j + 1, by omega, by omega, 95, by rfl, st⟩
            · rw [if_neg c1] at hsc
              have k1 : ¬ (c.toNat : Int) = 95 := fun h => c1 (u8_95.1 h)
              simp [k1]
              refine WC.of (c253 D.d253) ?_
              rintro r H ⟨rfl, rfl⟩
              have hr := dv_range c
              by_cases c3 : dv c < 8
              · rw [if_pos c3] at hsc
                simp (disch := omega) [g4, g0, g5, g6, g24, g25, show ¬ 8 ≤ dv c by omega, wrap64]
                have st : RadSt u (8) (u.drop (j + 1)) (min (n * (8) + dv c) 9007199254740993) c := ⟨true, by omega, by omega, by simp [c1], hsc⟩
                exact ⟨i - 1, by omega, j + 1, by omega, by omega, c, rfl, st⟩
              · rw [if_neg c3] at hsc
                simp [g4, show 8 ≤ dv c by omega, hsc]
          · intro hlt
            simp at hlt
            rw [List.drop_eq_nil_of_le (by omega), scan] at hsc
            by_cases k2 : (last.toNat : Int) = 95
            · have : b = false := hlb.1 (u8_95.1 k2)
              rw [this] at hsc
              simp at hsc
              simp [g6, k2, hsc]
            · have hbt : b = true := by
                cases b with
                | true => rfl
                | false => exact absurd (u8_95.2 (hlb.2 rfl)) k2
              rw [hbt] at hsc
              simp at hsc
              by_cases c4 : 9007199254740992 < n
              · rw [if_neg (by omega)] at hsc
                simp [g6, k2, g5, c4, hsc]
              · rw [if_pos (by omega)] at hsc
                simp [g6, k2, g5, c4, hsc]
      · have hrad : radixR s = scan 10 s 0 false := by
          cases s with
          | nil => rfl
          | cons c r => exact radix_other (by rintro rfl; exact h3 rfl)
        simp [h3]
        refine W_loop (fun (i : Nat) e K => K = H ∧ e 4 = .int .i64 (10) ∧ e 0 = .str (s) ∧ e 24 = .int .i64 (s).length ∧ ∃ j : Nat, i + j = (s).length ∧ e 25 = .int .i64 j ∧ ∃ (n : Int) (last : UInt8), e 5 = .int .i64 n ∧ e 6 = .int .u8 last.toNat ∧ RadSt s (10) ((s).drop j) n last) id (s).length ?_ ?_
        · exact ⟨rfl, by simp [h3], by simp [h3], by simp [h3], 0, by simp, by simp, 0, 95, by simp, by simp, false, by omega, by omega, by simp, by rw [hrad, List.drop_zero]⟩
        · generalize s = u at *
          rintro i e H ⟨rfl, g4, g0, g24, j, hj, g25, n, last, g5, g6, b, n0, n1, hlb, hsc⟩
          simp [g24, g25]
          refine WB.bool ?_ ?_
          · intro hlt
            simp at hlt
            have ed := drop_nth hlt
            rw [ed, scan] at hsc
            obtain ⟨c, hc⟩ : ∃ c, nth u (j : Int) = c := ⟨_, rfl⟩
            rw [hc] at hsc ed
            simp (disch := omega) [g0, g25, hlt, hc]
            by_cases c1 : c = 95
            · rw [if_pos c1] at hsc
              have k1 : (c.toNat : Int) = 95 := u8_95.2 c1
              cases b with
              | false =>
                have k2 : (last.toNat : Int) = 95 := u8_95.2 (hlb.2 rfl)
                simp at hsc
                simp [k1, g6, k2, hsc]
              | true =>
                have k2 : ¬ (last.toNat : Int) = 95 := fun h => by have := hlb.1 (u8_95.1 h); simp at this
                simp at hsc
                simp (disch := omega) [k1, g6, k2, g4, g0, g5, g24, g25, wrap64]
                have st : RadSt u (10) (u.drop (j + 1)) n 95 := ⟨false, n0, n1, by simp, hsc⟩
                exact ⟨i - 1, by omega, j + 1, by omega, by omega, 95, by rfl, st⟩
            · rw [if_neg c1] at hsc
              have k1 : ¬ (c.toNat : Int) = 95 := fun h => c1 (u8_95.1 h)
              simp [k1]
              refine WC.of (c253 D.d253) ?_
              rintro r H ⟨rfl, rfl⟩
              have hr := dv_range c
              by_cases c3 : dv c < 10
              · rw [if_pos c3] at hsc
                simp (disch := omega) [g4, g0, g5, g6, g24, g25, show ¬ 10 ≤ dv c by omega, wrap64]
                have st : RadSt u (10) (u.drop (j + 1)) (min (n * (10) + dv c) 9007199254740993) c := ⟨true, by omega, by omega, by simp [c1], hsc⟩
                exact ⟨i - 1, by omega, j + 1, by omega, by omega, c, rfl, st⟩
              · rw [if_neg c3] at hsc
                simp [g4, show 10 ≤ dv c by omega, hsc]
          · intro hlt
            simp at hlt
            rw [List.drop_eq_nil_of_le (by omega), scan] at hsc
            by_cases k2 : (last.toNat : Int) = 95
            · have : b = false := hlb.1 (u8_95.1 k2)
              rw [this] at hsc
              simp at hsc
              simp [g6, k2, hsc]
            · have hbt : b = true := by
                cases b with
                | true => rfl
                | false => exact absurd (u8_95.2 (hlb.2 rfl)) k2
              rw [hbt] at hsc
              simp at hsc
              by_cases c4 : 9007199254740992 < n
              · rw [if_neg (by omega)] at hsc
                simp [g6, k2, g5, c4, hsc]
              · rw [if_pos (by omega)] at hsc
                simp [g6, k2, g5, c4, hsc]

theorem c238 (D : D238 T) {H : AHeap} (hw : WF H) {s : List UInt8} : Calls T 238 [.str s] H fun r _ => r = .bool true := by
  refine Calls.fn D.pr D.fn ?_
  simp [ir238]
  refine WC.of (c240 D.d240) ?_
  rintro r H ⟨rfl, rfl⟩
  simp
  refine WB.bool ?_ ?_
  · intro h
    simp
    refine WC.of (c241 D.d241 hw) ?_
    rintro r H' rfl
    simp
  · intro h
    simp at h
    simp
    refine WC.of (c247 D.d247 (by omega)) ?_
    rintro r H ⟨rfl, rfl⟩
    simp
    refine WC.of (c248 D.d248 (by omega)) ?_
    rintro r H ⟨rfl, rfl⟩
    simp
    refine WC.of (c241 D.d241 hw) ?_
    rintro r H' rfl
    simp

theorem law238 (D : D238 T) {K : AHeap} {as : List AV} (hw : WF K) (hg : Goods K [.str] as) : Calls T 238 as K fun v _ => v = .bool true := by
  obtain ⟨a, r, rfl, g1, rfl⟩ := hg
  obtain ⟨s, rfl, _⟩ := g1.str
  exact c238 D hw
end Go.Am
