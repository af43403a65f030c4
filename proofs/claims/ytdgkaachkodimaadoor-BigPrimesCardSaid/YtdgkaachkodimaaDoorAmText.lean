/- Numbers and their texts: there and back. What known asks. -/
import Derived.Test.YtdgkaachkodimaaDoorAmBigsO
import Derived.Test.YtdgkaachkodimaaDoorAmRfs
set_option linter.unusedVariables false
set_option linter.unusedSimpArgs false
namespace Go.Am
variable {T : Tab}
/-- The digits, reckoned with a bound. -/
def dgF : Nat → Nat → List Int
  | 0, _ => []
  | k + 1, n => if n = 0 then [] else dgF k (n / 10) ++ [((n % 10 : Nat) : Int)]
theorem dig_dgF : ∀ (k n : Nat), n < 10 ^ k → dig n = dgF k n
  | 0, n, h => by
    have : n = 0 := by simp at h; exact h
    subst this; rw [dig_zero]; rfl
  | k + 1, n, h => by
    unfold dgF
    by_cases h0 : n = 0
    · subst h0; rw [dig_zero]; rfl
    · rw [if_neg h0, dig_pos h0, dig_dgF k (n / 10) (by rw [Nat.pow_succ] at h; omega)]
/-- A number's text, reckoned. -/
def showF (z : Int) : List UInt8 := if z = 0 then [48] else (if bel z then [45] else []) ++ (dgF 40 z.natAbs).map chS
theorem showS_F {z : Int} (h : z.natAbs < 10 ^ 40) : showS z = showF z := by unfold showS showF; rw [dig_dgF 40 _ h]
theorem bigZ_F {z : Int} (h : z.natAbs < 10 ^ 40) : bigZ z = false := by
  have := dig_len_le h
  unfold bigZ; simp; omega
theorem read_len {s : List UInt8} {z : Int} (h : readS s = some z) : s.length ≤ 401 := by
  obtain ⟨d, neg, hs, _, hd, _⟩ := readS_parts h
  rw [hs]
  cases neg <;> simp <;> omega
theorem errS_of {l : List (List UInt8)} (h : ∀ s ∈ l, ∃ z, readS s = some z) : errS l = 0 := by
  unfold errS numsS
  rw [if_neg, if_neg]
  · intro ha
    obtain ⟨s, hs, hn⟩ := List.any_eq_true.1 ha
    obtain ⟨z, hz⟩ := h s hs
    rw [hz] at hn; cases hn
  · intro ha
    obtain ⟨s, hs, hn⟩ := List.any_eq_true.1 ha
    obtain ⟨z, hz⟩ := h s hs
    have := read_len hz
    simp at hn; omega
/-- The numbers that known asks for. -/
theorem known_div : divS [45, 55] [50] = (0, [45, 52], [49]) := by
  have e : errS [[45, 55], [50]] = 0 := errS_of fun s hs => by
    simp at hs
    rcases hs with rfl | rfl
    · exact ⟨-7, by decide⟩
    · exact ⟨2, by decide⟩
  have r1 : rdS [45, 55] = -7 := by decide
  have r2 : rdS [50] = 2 := by decide
  have q : qd (-7) 2 = -4 := by decide
  have m : md (-7) 2 = 1 := by decide
  unfold divS outS2
  rw [e, if_pos rfl, r1, r2, if_neg (by decide), q, m, bigZ_F (by decide), bigZ_F (by decide), showS_F (by decide), showS_F (by decide)]
  decide
theorem known_gcd : gcdT [50, 52, 48] [52, 54] = (0, [50], [45, 57], [52, 55]) := by
  have e : errS [[50, 52, 48], [52, 54]] = 0 := errS_of fun s hs => by
    simp at hs
    rcases hs with rfl | rfl
    · exact ⟨240, by decide⟩
    · exact ⟨46, by decide⟩
  have r1 : rdS [50, 52, 48] = 240 := by decide
  have r2 : rdS [52, 54] = 46 := by decide
  have g : gcdS 240 46 = (2, -9, 47) := by decide
  unfold gcdT outS3
  rw [e, if_pos rfl, r1, r2, g]
  simp only
  rw [bigZ_F (by decide), bigZ_F (by decide), bigZ_F (by decide), showS_F (by decide), showS_F (by decide), showS_F (by decide)]
  decide
theorem known_frac : fracS [50] [51] 4 = (0, [48, 46, 54, 54, 54, 55]) := by
  have e : errS [[50], [51]] = 0 := errS_of fun s hs => by
    simp at hs
    rcases hs with rfl | rfl
    · exact ⟨2, by decide⟩
    · exact ⟨3, by decide⟩
  have r1 : rdS [50] = 2 := by decide
  have r2 : rdS [51] = 3 := by decide
  have f : fracN ((2 : Int).natAbs * 10 ^ (4 : Int).toNat) (3 : Int).natAbs = 6667 := by decide
  unfold fracS
  rw [e, if_pos rfl, r1, r2, if_neg (by decide), f]
  unfold fracT fracD
  rw [dig_dgF 40 6667 (by decide)]
  decide
theorem known_pow : powS [50] 100 = (0, [49,50,54,55,54,53,48,54,48,48,50,50,56,50,50,57,52,48,49,52,57,54,55,48,51,50,48,53,51,55,54]) := by
  have e : errS [[50]] = 0 := errS_of fun s hs => by
    simp at hs
    subst hs
    exact ⟨2, by decide⟩
  have r1 : rdS [50] = 2 := by decide
  have n1 : (2 : Int).natAbs = 2 := rfl
  have n2 : (100 : Int).toNat = 100 := rfl
  have p : powN 2 400 100 1 = some (1 * 2 ^ 100) := powN_some (by decide) (by have := dig_len_le (k := 40) (n := 1 * 2 ^ 100) (by decide); omega)
  have b : bel 2 = false := by decide
  unfold powS
  rw [e, if_pos rfl, if_neg (by decide), r1, n1, n2, p, b]
  simp only [Bool.false_and]
  rw [showS_F (by decide)]
  decide
theorem c411 (Dt : D411 T) {H : AHeap} (hw : WF H) {a : List UInt8} : Calls T 411 [.str a] H fun r H' => Fr H H' ∧ r = .bool (decide (5000 < a.length)) := by
  refine Calls.fn Dt.pr Dt.fn ?_
  simp [ir411]
  exact ⟨.refl hw, by omega⟩
theorem c412 (Dt : D412 T) {H : AHeap} (hw : WF H) : Calls T 412 [] H fun r H' => Fr H H' ∧ r = .bool true := by
  refine Calls.fn Dt.pr Dt.fn ?_
  have F := Fx.start hw (D := fun _ => False) (fun _ h => h.elim) (ps := []) trivial
  simp [ir412]
  refine WC.of (c416 Dt.d416 F.wf (a := [45, 55]) (b := [50]) (by decide) (by decide)) ?_
  rintro r1 X1 ⟨fr1, rfl⟩
  have F1 := F.call fr1
  rw [known_div]
  simp
  refine WC.of (c436 Dt.d436 F1.wf (a := [50, 52, 48]) (b := [52, 54]) (by decide) (by decide)) ?_
  rintro r2 X2 ⟨fr2, rfl⟩
  have F2 := F1.call fr2
  rw [known_gcd]
  simp
  refine WC.of (c414 Dt.d414 F2.wf (a := [50]) (b := [51]) (by decide) (by decide)) ?_
  rintro r3 X3 ⟨fr3, rfl⟩
  have F3 := F2.call fr3
  rw [known_frac]
  simp
  refine WC.of (c420 Dt.d420 F3.wf (a := [50]) (by decide)) ?_
  rintro r4 X4 ⟨fr4, rfl⟩
  have F4 := F3.call fr4
  rw [known_pow]
  simp
  exact F4.fr
end Go.Am
