/- Contracts: texts sorted by their bytes, and by keys. -/
import Derived.Test.YtepgjaknkjkpaaaDoorAmMergeS
import Derived.Test.YtepgjaknkjkpaaaDoorAmUniq2
import Derived.Test.YtepgjaknkjkpaaaDoorAmOrd
set_option linter.unusedVariables false
set_option linter.unusedSimpArgs false
namespace Go.Am
variable {T : Tab}

/-! ### Comparisons -/
def cmpZ (a b : Int) : Int := if a < b then -1 else if b < a then 1 else 0
abbrev cmpB (a b : List UInt8) : Int := Lib.compareBytes a b

theorem c176 (D : D176 T) {H : AHeap} {a b : Int} : Calls T 176 [.int .i64 a, .int .i64 b] H fun r H' => H' = H ∧ r = .int .i64 (cmpZ a b) := by
  refine Calls.fn D.pr D.fn ?_
  simp [ir176]
  refine WB.bool ?_ ?_
  · intro h
    simp at h
    simp [cmpZ, h]
  · intro h
    simp at h
    simp
    refine WB.bool ?_ ?_
    · intro h2
      simp at h2
      simp [cmpZ, h2, show ¬ a < b by omega]
    · intro h2
      simp at h2
      simp [cmpZ, show ¬ b < a by omega, show ¬ a < b by omega]

theorem c192 (D : D192 T) {H : AHeap} {a : Int} : Calls T 192 [.int .i64 a] H fun r H' => H' = H ∧ r = .bool false := by
  refine Calls.fn D.pr D.fn ?_
  simp [ir192]

theorem c178 (D : D178 T) {H : AHeap} {a b : Int} : Calls T 178 [.int .i64 a, .int .i64 b] H fun r H' => H' = H ∧ r = .int .i64 (cmpZ a b) := by
  refine Calls.fn D.pr D.fn ?_
  simp [ir178]
  refine WC.of (c192 D.d192) ?_
  rintro r H' ⟨rfl, rfl⟩
  simp
  refine WC.of (c192 D.d192) ?_
  rintro r H' ⟨rfl, rfl⟩
  simp
  refine WB.bool ?_ ?_
  · intro h
    simp at h
    simp [cmpZ, h]
  · intro h
    simp at h
    simp
    refine WB.bool ?_ ?_
    · intro h2
      simp at h2
      simp [cmpZ, h2, show ¬ a < b by omega]
    · intro h2
      simp at h2
      simp [cmpZ, show ¬ b < a by omega, show ¬ a < b by omega]

theorem c160 (D : D160 T) {H : AHeap} {a b : Int} : Calls T 160 [.int .i64 a, .int .i64 b] H fun r H' => H' = H ∧ r = .int .i64 (cmpZ a b) := by
  refine Calls.fn D.pr D.fn ?_
  simp [ir160]
  refine WC.of (c178 D.d178) ?_
  rintro r H' ⟨rfl, rfl⟩
  simp

theorem c177 (D : D177 T) {H : AHeap} {a b : List UInt8} : Calls T 177 [.str a, .str b] H fun r H' => H' = H ∧ r = .int .i64 (cmpB a b) := by
  refine Calls.fn D.pr D.fn ?_
  simp [ir177]
  refine WC.of (Calls.prim D.p191 (Q := fun r H' => H' = H ∧ r = .int .i64 (cmpB a b)) rfl ⟨rfl, rfl⟩) ?_
  rintro r H' ⟨rfl, rfl⟩
  simp

theorem c158 (D : D158 T) {H : AHeap} {a b : List UInt8} : Calls T 158 [.str a, .str b] H fun r H' => H' = H ∧ r = .int .i64 (cmpB a b) := by
  refine Calls.fn D.pr D.fn ?_
  simp [ir158]
  refine WC.of (c177 D.d177) ?_
  rintro r H' ⟨rfl, rfl⟩
  simp

theorem cb_prefix (s t : List UInt8) : ∀ p : List UInt8, cmpB (p ++ s) (p ++ t) = cmpB s t
  | [] => rfl
  | x :: p => by
    show Lib.compareBytes (x :: (p ++ s)) (x :: (p ++ t)) = _
    rw [Lib.compareBytes, if_neg (UInt8.lt_irrefl x), if_neg (UInt8.lt_irrefl x)]
    exact cb_prefix s t p
theorem cb_drop {s t : List UInt8} {j : Nat} (h : s.take j = t.take j) : cmpB s t = cmpB (s.drop j) (t.drop j) := by
  have e1 : t.take j ++ s.drop j = s := by rw [← h, List.take_append_drop]
  have e2 : t.take j ++ t.drop j = t := List.take_append_drop j t
  have := cb_prefix (s.drop j) (t.drop j) (t.take j)
  rwa [e1, e2] at this
theorem cb_at {s t : List UInt8} {j : Nat} (h : s.take j = t.take j) (hs : j < s.length) (ht : j < t.length) (hne : nth s (j : Int) ≠ nth t (j : Int)) : cmpB s t = cmpZ (nth s (j : Int)).toNat (nth t (j : Int)).toNat := by
  have es : nth s (j : Int) = s[j] := by simp [nth, List.getElem?_eq_getElem hs]
  have et : nth t (j : Int) = t[j] := by simp [nth, List.getElem?_eq_getElem ht]
  rw [cb_drop h, List.drop_eq_getElem_cons hs, List.drop_eq_getElem_cons ht, ← es, ← et]
  generalize nth s (j : Int) = a at *
  generalize nth t (j : Int) = b at *
  show Lib.compareBytes _ _ = _
  unfold Lib.compareBytes cmpZ
  have h1 : (a < b) ↔ ((a.toNat : Int) < b.toNat) := by rw [UInt8.lt_iff_toNat_lt]; omega
  have h2 : (b < a) ↔ ((b.toNat : Int) < a.toNat) := by rw [UInt8.lt_iff_toNat_lt]; omega
  by_cases c1 : a < b
  · rw [if_pos c1, if_pos (h1.1 c1)]
  · rw [if_neg c1, if_neg (fun h => c1 (h1.2 h))]
    by_cases c2 : b < a
    · rw [if_pos c2, if_pos (h2.1 c2)]
    · exact absurd (UInt8.le_antisymm (UInt8.not_lt.1 c2) (UInt8.not_lt.1 c1)) hne
theorem cb_end {s t : List UInt8} {j : Nat} (h : s.take j = t.take j) (hj : j ≤ s.length ∧ j ≤ t.length) (he : s.length ≤ j ∨ t.length ≤ j) : cmpB s t = cmpZ s.length t.length := by
  rw [cb_drop h]
  show Lib.compareBytes _ _ = _
  unfold cmpZ
  cases e1 : s.drop j with
  | nil =>
    have l1 : s.length ≤ j := List.drop_eq_nil_iff.1 e1
    cases e2 : t.drop j with
    | nil =>
      have l2 : t.length ≤ j := List.drop_eq_nil_iff.1 e2
      rw [if_neg (by omega), if_neg (by omega)]; rfl
    | cons b bs =>
      have l2 : ¬ t.length ≤ j := fun h => by rw [List.drop_eq_nil_iff.2 h] at e2; cases e2
      rw [if_pos (by omega)]; rfl
  | cons a as =>
    have l1 : ¬ s.length ≤ j := fun h => by rw [List.drop_eq_nil_iff.2 h] at e1; cases e1
    have e2 : t.drop j = [] := List.drop_eq_nil_iff.2 (by omega)
    rw [e2, if_neg (by omega), if_pos (by omega)]; rfl

theorem u8_lt (c : UInt8) : c.toNat < 256 := c.toNat_lt
theorem wrapU8 (c : UInt8) : IntKind.i64.wrap (c.toNat : Int) = c.toNat := wrap64 (by omega) (by have := u8_lt c; omega)
theorem u8_ne {a b : UInt8} : ((a.toNat : Int) = b.toNat) ↔ a = b := by
  constructor
  · intro h; exact UInt8.toNat_inj.1 (by omega)
  · rintro rfl; rfl

theorem c155 (D : D155 T) {H : AHeap} {s t : List UInt8} (hs : s.length < 2 ^ 63) : Calls T 155 [.str s, .str t] H fun r H' => H' = H ∧ r = .int .i64 (cmpB s t) := by
  refine Calls.fn D.pr D.fn ?_
  simp [ir155]
  refine W_loop (fun (i : Nat) e K => K = H ∧ e 0 = .str s ∧ e 1 = .str t ∧ ∃ j : Nat, i + j = s.length ∧ e 5 = .int .i64 j ∧ j ≤ t.length ∧ s.take j = t.take j) id s.length ?_ ?_
  · simp
  · rintro i e K ⟨rfl, h0, h1, j, hj, h5, hjt, hp⟩
    simp [h0, h5]
    by_cases hjs : j < s.length
    · simp [hjs, h1, h5]
      by_cases hjt2 : j < t.length
      · simp (disch := omega) [hjt2, hjs, h0, h1, h5, u8_ne]
        by_cases hne : nth s (j : Int) = nth t (j : Int)
        · simp (disch := omega) [hne, h0, h1, h5, wrap64]
          refine ⟨i - 1, by omega, j + 1, by omega, by omega, by omega, ?_⟩
          rw [take_nth hjs, take_nth hjt2, hp, hne]
        · simp (disch := omega) [hne, h0, h1, h5, hjs, hjt2, wrapU8]
          refine WC.of (c176 D.d176) ?_
          rintro r H' ⟨rfl, rfl⟩
          simp [cb_at hp hjs hjt2 hne]
      · simp [hjt2, h0, h1]
        refine WC.of (c176 D.d176) ?_
        rintro r H' ⟨rfl, rfl⟩
        simp [cb_end hp ⟨by omega, hjt⟩ (.inr (by omega))]
    · simp [hjs, h0, h1]
      refine WC.of (c176 D.d176) ?_
      rintro r H' ⟨rfl, rfl⟩
      simp [cb_end hp ⟨by omega, hjt⟩ (.inl (by omega))]

theorem cmpZ_pos {a b : Int} : 0 < cmpZ a b ↔ b < a := by
  unfold cmpZ; split
  · constructor <;> intro h <;> omega
  · split <;> constructor <;> intro h <;> omega

theorem cb_pos : ∀ {a b : List UInt8}, 0 < cmpB a b ↔ b < a
  | [], [] => by simp [Lib.compareBytes]
  | [], _ :: _ => by simp [Lib.compareBytes]
  | _ :: _, [] => by simp [Lib.compareBytes]
  | x :: a, y :: b => by
    have ih := @cb_pos a b
    show 0 < Lib.compareBytes (x :: a) (y :: b) ↔ _
    unfold Lib.compareBytes
    rw [List.cons_lt_cons_iff]
    by_cases h1 : x < y
    · rw [if_pos h1]
      constructor
      · intro h; omega
      · rintro (h | ⟨rfl, _⟩)
        · exact absurd (UInt8.lt_trans h h1) (UInt8.lt_irrefl _)
        · exact absurd h1 (UInt8.lt_irrefl _)
    · rw [if_neg h1]
      by_cases h2 : y < x
      · rw [if_pos h2]; simp [h2]
      · rw [if_neg h2]
        have : x = y := UInt8.le_antisymm (UInt8.not_lt.1 h2) (UInt8.not_lt.1 h1)
        subst this
        simp [UInt8.lt_irrefl, ih]

theorem gt_bytes : GtOk cmpB := by
  refine ⟨fun x y z h1 h2 => ?_, fun x y z h1 h2 => ?_, fun x => ?_⟩
  · rw [cb_pos] at *; exact List.lt_trans h2 h1
  · rw [cb_pos] at *
    rw [List.not_lt] at *
    exact List.le_trans h1 h2
  · rw [cb_pos]; exact List.lt_irrefl x

def cmpK (keys : List Int) (a b : Int) : Int := cmpZ (nth keys a) (nth keys b)
theorem gt_keys (keys : List Int) : GtOk (cmpK keys) := by
  refine ⟨fun x y z h1 h2 => ?_, fun x y z h1 h2 => ?_, fun x => ?_⟩ <;> unfold cmpK at * <;> rw [cmpZ_pos] at * <;> omega
end Go.Am
