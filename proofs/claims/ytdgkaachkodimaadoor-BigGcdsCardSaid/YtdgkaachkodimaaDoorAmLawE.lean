/- The laws of package big: greatest common divisors and inverses. -/
import Derived.Test.YtdgkaachkodimaaDoorAmRfs
import Derived.Test.YtdgkaachkodimaaDoorAmLawB
set_option linter.unusedVariables false
set_option linter.unusedSimpArgs false
namespace Go.Am
variable {T : Tab}
theorem eg_bez {a b : Int} : ∀ (n : Nat) {r0 r1 x0 x1 y0 y1 : Int}, EgI a b r0 r1 x0 x1 y0 y1 →
    a * (eg n r0 r1 x0 x1 y0 y1).2.1 + b * (eg n r0 r1 x0 x1 y0 y1).2.2 = (eg n r0 r1 x0 x1 y0 y1).1
  | 0, r0, r1, x0, x1, y0, y1, h => h.z0
  | n + 1, r0, r1, x0, x1, y0, y1, h => by
    by_cases h1 : r1 = 0
    · simp only [eg, if_pos h1]; exact h.z0
    · simp only [eg, if_neg h1]; exact eg_bez n (h.step h1)
theorem gcd_bez (a b : Int) : a * (gcdS a b).2.1 + b * (gcdS a b).2.2 = (gcdS a b).1 := by
  have := eg_bez (b.natAbs + 1) (EgI.init a b)
  unfold gcdS
  simp only
  split
  · simp only [Int.mul_neg]; omega
  · exact this
theorem md_emod (x : Int) {y : Int} (h : 0 < y) : md x y = x % y := by
  unfold md qd
  rw [if_pos h]
  have := Int.emod_add_mul_ediv x y
  omega
theorem gcd_same {a b : List UInt8} (hs : errS [a, b] = 0 → (dig (rdS a).natAbs).length ≤ 120 ∧ (dig (rdS b).natAbs).length ≤ 120) : gcdT a b = gcdR a b := by
  unfold gcdT gcdR
  by_cases e : errS [a, b] = 0
  · obtain ⟨la, lb⟩ := hs e
    obtain ⟨g1, g2, g3⟩ := gcdS_len la lb
    rw [if_pos e, if_pos e]
    have z : ∀ {z : Int}, (dig z.natAbs).length ≤ 121 → bigZ z = false := by
      intro z hz; unfold bigZ; simp; omega
    unfold outS3
    rw [z (by omega), z g2, z g3]
    rfl
  · rw [if_neg e, if_neg e]
theorem inv_len {a b : List UInt8} (hs : errS [a, b] = 0 → (dig (rdS b).natAbs).length ≤ 400) : (invS a b).2.1.length ≤ 401 := by
  unfold invS
  by_cases e : errS [a, b] = 0
  · rw [if_pos e]
    by_cases h1 : rdS b < 1
    · rw [if_pos h1]; simp
    · rw [if_neg h1]
      split
      · exact show_len (md_len (by omega) (hs e))
      · simp
  · rw [if_neg e]; simp
/-- An inverse is one. -/
theorem inv_back {a b : List UInt8} (hs : errS [a, b] = 0 → (dig (rdS a).natAbs).length ≤ 120 ∧ (dig (rdS b).natAbs).length ≤ 120) (hf : (invS a b).2.2 = true) (h1 : b ≠ [49]) :
    (opS (· * ·) a (invS a b).2.1).1 = 0 ∧ (divS (opS (· * ·) a (invS a b).2.1).2 b).1 = 0 ∧ (divS (opS (· * ·) a (invS a b).2.1).2 b).2.2 = [49] := by
  unfold invS at hf ⊢
  by_cases e : errS [a, b] = 0
  · obtain ⟨la, lb⟩ := hs e
    have ra := errS_in e (s := a) (by simp)
    have rb := errS_in e (s := b) (by simp)
    rw [if_pos e] at hf ⊢
    by_cases hb1 : rdS b < 1
    · rw [if_pos hb1] at hf; cases hf
    · rw [if_neg hb1] at hf ⊢
      by_cases hg : (gcdS (rdS a) (rdS b)).1 = 1
      · rw [if_pos hg]
        simp only
        have hbz := gcd_bez (rdS a) (rdS b)
        rw [hg] at hbz
        obtain ⟨A, hA⟩ : ∃ A, rdS a = A := ⟨_, rfl⟩
        obtain ⟨B, hB⟩ : ∃ B, rdS b = B := ⟨_, rfl⟩
        rw [hA] at ra la hbz ⊢
        rw [hB] at rb lb hbz hb1 ⊢
        obtain ⟨E, hE⟩ : ∃ E, gcdS A B = E := ⟨_, rfl⟩
        rw [hE] at hbz ⊢
        have hB1 : B ≠ 1 := by
          intro h
          apply h1
          rw [h] at rb
          have := show_read rb
          rw [show_one] at this
          exact this.symm
        have hm : (dig (md E.2.1 B).natAbs).length ≤ 120 := md_len (by omega) lb
        have hp : (dig (A * md E.2.1 B).natAbs).length ≤ 240 := by rw [Int.natAbs_mul]; exact mul_len la hm
        rw [opS_of ra (read_show (by omega)), outS_ok (by omega)]
        refine ⟨rfl, ?_⟩
        simp only
        have rp := read_show (z := A * md E.2.1 B) (by omega)
        have e2 : errS [showS (A * md E.2.1 B), b] = 0 := errS_of fun s hs => by
          simp at hs
          rcases hs with rfl | rfl
          · exact ⟨_, rp⟩
          · exact ⟨_, rb⟩
        have hmd : md (A * md E.2.1 B) B = 1 := by
          rw [md_emod _ (by omega), md_emod _ (by omega), Int.mul_emod, Int.emod_emod, ← Int.mul_emod]
          have : A * E.2.1 = 1 + B * (-E.2.2) := by rw [Int.mul_neg]; omega
          rw [this, Int.add_mul_emod_self_left]
          exact Int.emod_eq_of_lt (by omega) (by omega)
        have hq := qd_len (x := A * md E.2.1 B) (y := B) hp
        unfold divS outS2
        rw [if_pos e2, rd_ok rp, rd_ok rb, if_neg (by omega), hmd]
        have z1 : bigZ (qd (A * md E.2.1 B) B) = false := by unfold bigZ; simp; omega
        have z2 : bigZ 1 = false := bigZ_F (by decide)
        rw [z1, z2]
        exact ⟨rfl, show_one⟩
      · rw [if_neg hg] at hf; cases hf
  · rw [if_neg e] at hf; cases hf
theorem read_dig {s : List UInt8} {z : Int} (h : readS s = some z) : (dig z.natAbs).length ≤ s.length := by
  obtain ⟨d, neg, hs, hd, _, hz, _⟩ := readS_parts h
  have := (dl_fd d.length d rfl hd).2
  rw [hz, sgn_abs, hs, List.length_append]
  have := dig_len_le this
  omega
def badL (s : List UInt8) : Bool := decide (120 < s.length) && (readS s).isSome
theorem badL_len {s : List UInt8} (h : badL s = false) {z : Int} (hz : readS s = some z) : (dig z.natAbs).length ≤ 120 := by
  unfold badL at h
  rw [hz] at h
  simp at h
  have := read_dig hz
  omega
theorem c408 (Dt : D408 T) {H : AHeap} (hw : WF H) {a b : List UInt8} : Calls T 408 [.str a, .str b] H fun r _ => r = .bool true := by
  refine Calls.fn Dt.pr Dt.fn ?_
  have F := Fx.start hw (D := fun _ => False) (fun _ h => h.elim) (ps := []) trivial
  have kn : ∀ {X : AHeap}, WF X → Calls T 412 [] X fun r X' => Fr X X' ∧ r = .bool true := fun h => c412 Dt.d412 h
  simp [-Wk_seq, ir408]
  rw [Wk_seq, W_seq]
  refine W_cut (fun e Y => e 0 = .str a ∧ e 1 = .str b ∧ e 47 = .bool (decide (5000 < a.length) || decide (5000 < b.length) || badL a || badL b) ∧ Fx H (fun _ => False) [] [] Y) ?_ ?_
  · simp
    refine WC.of (c411 Dt.d411 F.wf) ?_
    rintro r1 X1 ⟨fr1, rfl⟩
    have F1 := F.call fr1
    by_cases ha : 5000 < a.length
    · simp [ha]
      exact F1
    simp [ha]
    refine WC.of (c411 Dt.d411 F1.wf) ?_
    rintro r2 X2 ⟨fr2, rfl⟩
    have F2 := F1.call fr2
    by_cases hb : 5000 < b.length
    · simp [hb]
      exact F2
    have la : a.length < 2 ^ 40 := by omega
    have lb : b.length < 2 ^ 40 := by omega
    have hlast : ∀ {v : Bool}, badL b = v → True := fun _ => trivial
    simp [hb]
    by_cases h1 : 120 < a.length
    · have h1' : (120 : Int) < (a.length : Int) := by omega
      simp [h1, h1']
      refine WC.of (c421 Dt.d421 la) ?_
      rintro r3 X3 ⟨rfl, rfl⟩
      cases hr : (readS a).isSome with
      | true => simp [badL, hr, h1]; exact F2
      | false =>
        by_cases h2 : 120 < b.length
        · have h2' : (120 : Int) < (b.length : Int) := by omega
          simp [h2, h2']
          refine WC.of (c421 Dt.d421 lb) ?_
          rintro r4 X4 ⟨rfl, rfl⟩
          simp [badL, hr, h1, h2]
          exact F2
        · have h2' : ¬ (120 : Int) < (b.length : Int) := by omega
          simp [badL, hr, h1, h2, h2']
          exact F2
    · have h1' : ¬ (120 : Int) < (a.length : Int) := by omega
      by_cases h2 : 120 < b.length
      · have h2' : (120 : Int) < (b.length : Int) := by omega
        simp [h1, h1', h2, h2']
        refine WC.of (c421 Dt.d421 lb) ?_
        rintro r4 X4 ⟨rfl, rfl⟩
        simp [badL, h1, h2]
        exact F2
      · have h2' : ¬ (120 : Int) < (b.length : Int) := by omega
        simp [badL, h1, h1', h2, h2']
        exact F2
  · rintro e X ⟨h0, h1, h47, F⟩
    obtain ⟨bad, hbad⟩ : ∃ bad, (decide (5000 < a.length) || decide (5000 < b.length) || badL a || badL b) = bad := ⟨_, rfl⟩
    rw [hbad] at h47
    cases bad with
    | true =>
      simp [h47]
      refine WC.of (kn F.wf) ?_
      rintro r2 X2 ⟨fr2, rfl⟩
      simp
    | false =>
      simp only [Bool.or_eq_false_iff, decide_eq_false_iff_not] at hbad
      obtain ⟨⟨⟨ha, hb⟩, hba⟩, hbb⟩ := hbad
      have la : a.length < 2 ^ 40 := by omega
      have lb : b.length < 2 ^ 40 := by omega
      have hs : errS [a, b] = 0 → (dig (rdS a).natAbs).length ≤ 120 ∧ (dig (rdS b).natAbs).length ≤ 120 := fun he => ⟨badL_len hba (errS_in he (by simp)), badL_len hbb (errS_in he (by simp))⟩
      have hsame := gcd_same hs
      simp [h47, h0, h1]
      refine WC.of (c435 Dt.d435 F.wf la lb) ?_
      rintro r2 X2 ⟨fr2, rfl⟩
      have F2 := F.call fr2
      simp [h0, h1]
      refine WC.of (c436 Dt.d436 F2.wf la lb) ?_
      rintro r3 X3 ⟨fr3, rfl⟩
      have F3 := F2.call fr3
      rw [hsame]
      simp [h0, h1]
      refine WC.of (c437 Dt.d437 F3.wf la lb (fun he => ⟨by have := (hs he).1; omega, by have := (hs he).2; omega⟩)) ?_
      rintro r4 X4 ⟨fr4, rfl⟩
      have F4 := F3.call fr4
      simp [h0, h1]
      refine WC.of (c438 Dt.d438 F4.wf la lb) ?_
      rintro r5 X5 ⟨fr5, rfl⟩
      have F5 := F4.call fr5
      have hback := inv_back hs
      have hil := inv_len (a := a) (b := b) (fun he => by have := (hs he).2; omega)
      obtain ⟨V, hV⟩ : ∃ V, invS a b = V := ⟨_, rfl⟩
      rw [hV] at hback hil ⊢
      by_cases hf : V.2.2 = true
      · by_cases h49 : b = [49]
        · simp [hf, h49, h1]
          refine WC.of (kn F5.wf) ?_
          rintro r6 X6 ⟨fr6, rfl⟩
          simp
        · obtain ⟨k1, k2, k3⟩ := hback hf h49
          simp [hf, h49, h0, h1]
          refine WC.of (c417 Dt.d417 F5.wf (a := a) (b := V.2.1) la (by omega)) ?_
          rintro r6 X6 ⟨fr6, rfl⟩
          have F6 := F5.call fr6
          have hpl := opS_len (op := (· * ·)) (a := a) (b := V.2.1)
          obtain ⟨P, hP⟩ : ∃ P, opS (· * ·) a V.2.1 = P := ⟨_, rfl⟩
          rw [hP] at k1 k2 k3 hpl ⊢
          simp [h1]
          refine WC.of (c416 Dt.d416 F6.wf (a := P.2) (b := b) (by omega) lb) ?_
          rintro r7 X7 ⟨fr7, rfl⟩
          have F7 := F6.call fr7
          simp [k1, k2, k3]
          refine WC.of (kn F7.wf) ?_
          rintro r8 X8 ⟨fr8, rfl⟩
          simp
      · have hf' : V.2.2 = false := by simpa using hf
        simp [hf']
        refine WC.of (kn F5.wf) ?_
        rintro r6 X6 ⟨fr6, rfl⟩
        simp
theorem law408 (D : D408 T) {K : AHeap} {as : List AV} (hw : WF K) (hg : Goods K [.str, .str] as) : Calls T 408 as K fun v _ => v = .bool true := by
  obtain ⟨a, r, rfl, g1, b, r2, rfl, g2, rfl⟩ := hg
  obtain ⟨a, ha, _⟩ := g1
  obtain ⟨b, hb, _⟩ := g2
  simp only [List.cons.injEq, and_true] at ha hb
  subst ha hb
  exact c408 D hw
end Go.Am
