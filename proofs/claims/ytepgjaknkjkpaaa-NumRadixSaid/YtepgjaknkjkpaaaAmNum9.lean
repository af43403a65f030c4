/- The law of numbers with a radix: the program's reader of digits. -/
import Derived.Test.YtepgjaknkjkpaaaAmNum8
set_option linter.unusedVariables false
set_option linter.unusedSimpArgs false
namespace Go.Am
variable {T : Tab}

def RadSt (s : List UInt8) (base : Int) (l : List UInt8) (n : Int) (last : UInt8) : Prop := ∃ b : Bool, 0 ≤ n ∧ n ≤ 9007199254740993 ∧ (last = 95 ↔ b = false) ∧ radixR s = scan base l n b

theorem c248 (D : D248 T) {H : AHeap} {s : List UInt8} (hs : s.length < 2 ^ 62) : Calls T 248 [.str s] H fun r H' => H' = H ∧ r = optV (radixR s) := by
  refine Calls.fn D.pr D.fn ?_
  simp [ir248]
  refine WC.of (c252 D.d252) ?_
  rintro r H ⟨rfl, rfl⟩
  by_cases h1 : s.take 2 = [48, 120]
  · obtain ⟨t, rfl⟩ : ∃ t, s = 48 :: 120 :: t := ⟨s.drop 2, by rw [← List.take_append_drop 2 s, h1]; rfl⟩
    have hrad : radixR (48 :: 120 :: t) = scan 16 t 0 false := rfl
    generalize hsv : 48 :: 120 :: t = s at *
    have hl : s.length = t.length + 2 := by rw [← hsv]; rfl
    have hdr : s.drop 2 = t := by rw [← hsv]; rfl
    simp [h1, hl, hdr, show (2 : Int) ≤ t.length + 2 by omega]
    refine W_loop (fun (i : Nat) e K => K = H ∧ e 4 = .int .i64 (16) ∧ e 0 = .str (t) ∧ e 24 = .int .i64 (t).length ∧ ∃ j : Nat, i + j = (t).length ∧ e 25 = .int .i64 j ∧ ∃ (n : Int) (last : UInt8), e 5 = .int .i64 n ∧ e 6 = .int .u8 last.toNat ∧ RadSt s (16) ((t).drop j) n last) id (t).length ?_ ?_
    · exact ⟨rfl, by simp [hdr], by simp [hdr], by simp [hdr], 0, by simp, by simp, 0, 95, by simp, by simp, false, by omega, by omega, by simp, by rw [hrad, List.drop_zero]⟩
    · generalize t = u at *
      rintro i e H ⟨rfl, g4, g0, g24, j, hj, g25, n, last, g5, g6, b, n0, n1, hlb, hsc⟩
      simp [g24, g25]
      refine WB.bool ?_ ?_
      · intro hlt
        simp at hlt
        have ed := drop_nth hlt
        rw [ed, scan] at hsc
        obtain ⟨c, hc⟩ : ∃ c, nth u (j : Int) = c := ⟨_, rfl⟩
        rw [hc] at hsc ed
        simp (disch := omega) [g0, g25, hlt, hc]
        by_cases c1 : c = 95
        · rw [if_pos c1] at hsc
          have k1 : (c.toNat : Int) = 95 := u8_95.2 c1
          cases b with
          | false =>
            have k2 : (last.toNat : Int) = 95 := u8_95.2 (hlb.2 rfl)
            simp at hsc
            simp [k1, g6, k2, hsc]
          | true =>
            have k2 : ¬ (last.toNat : Int) = 95 := fun h => by have := hlb.1 (u8_95.1 h); simp at this
            simp at hsc
            simp (disch := omega) [k1, g6, k2, g4, g0, g5, g24, g25, wrap64]
            have st : RadSt s (16) (u.drop (j + 1)) n 95 := ⟨false, n0, n1, by simp, hsc⟩
            exact ⟨i - 1, by omega, j + 1, by omega, by omega, 95, by rfl, st⟩
        · rw [if_neg c1] at hsc
          have k1 : ¬ (c.toNat : Int) = 95 := fun h => c1 (u8_95.1 h)
          simp [k1]
          refine WC.of (c253 D.d253) ?_
          rintro r H ⟨rfl, rfl⟩
          have hr := dv_range c
          by_cases c3 : dv c < 16
          · rw [if_pos c3] at hsc
            simp (disch := omega) [g4, g0, g5, g6, g24, g25, show ¬ 16 ≤ dv c by omega, wrap64]
            have st : RadSt s (16) (u.drop (j + 1)) (min (n * (16) + dv c) 9007199254740993) c := ⟨true, by omega, by omega, by simp [c1], hsc⟩
            exact ⟨i - 1, by omega, j + 1, by omega, by omega, c, rfl, st⟩
          · rw [if_neg c3] at hsc
            simp [g4, show 16 ≤ dv c by omega, hsc]
      · intro hlt
        simp at hlt
        rw [List.drop_eq_nil_of_le (by omega), scan] at hsc
        by_cases k2 : (last.toNat : Int) = 95
        · have : b = false := hlb.1 (u8_95.1 k2)
          rw [this] at hsc
          simp at hsc
          simp [g6, k2, hsc]
        · have hbt : b = true := by
            cases b with
            | true => rfl
            | false => exact absurd (u8_95.2 (hlb.2 rfl)) k2
          rw [hbt] at hsc
          simp at hsc
          by_cases c4 : 9007199254740992 < n
          · rw [if_neg (by omega)] at hsc
            simp [g6, k2, g5, c4, hsc]
          · rw [if_pos (by omega)] at hsc
            simp [g6, k2, g5, c4, hsc]
  · simp [h1]
    refine WC.of (c252 D.d252) ?_
    rintro r H ⟨rfl, rfl⟩
    by_cases h2 : s.take 2 = [48, 98]
    · obtain ⟨t, rfl⟩ : ∃ t, s = 48 :: 98 :: t := ⟨s.drop 2, by rw [← List.take_append_drop 2 s, h2]; rfl⟩
      have hrad : radixR (48 :: 98 :: t) = scan 2 t 0 false := rfl
      generalize hsv : 48 :: 98 :: t = s at *
      have hl : s.length = t.length + 2 := by rw [← hsv]; rfl
      have hdr : s.drop 2 = t := by rw [← hsv]; rfl
      simp [h2, hl, hdr, show (2 : Int) ≤ t.length + 2 by omega]
      refine W_loop (fun (i : Nat) e K => K = H ∧ e 4 = .int .i64 (2) ∧ e 0 = .str (t) ∧ e 24 = .int .i64 (t).length ∧ ∃ j : Nat, i + j = (t).length ∧ e 25 = .int .i64 j ∧ ∃ (n : Int) (last : UInt8), e 5 = .int .i64 n ∧ e 6 = .int .u8 last.toNat ∧ RadSt s (2) ((t).drop j) n last) id (t).length ?_ ?_
      · exact ⟨rfl, by simp [hdr], by simp [hdr], by simp [hdr], 0, by simp, by simp, 0, 95, by simp, by simp, false, by omega, by omega, by simp, by rw [hrad, List.drop_zero]⟩
      · generalize t = u at *
        rintro i e H ⟨rfl, g4, g0, g24, j, hj, g25, n, last, g5, g6, b, n0, n1, hlb, hsc⟩
        simp [g24, g25]
        refine WB.bool ?_ ?_
        · intro hlt
          simp at hlt
          have ed := drop_nth hlt
          rw [ed, scan] at hsc
          obtain ⟨c, hc⟩ : ∃ c, nth u (j : Int) = c := ⟨_, rfl⟩
          rw [hc] at hsc ed
          simp (disch := omega) [g0, g25, hlt, hc]
          by_cases c1 : c = 95
          · rw [if_pos c1] at hsc
            have k1 : (c.toNat : Int) = 95 := u8_95.2 c1
            cases b with
            | false =>
              have k2 : (last.toNat : Int) = 95 := u8_95.2 (hlb.2 rfl)
              simp at hsc
              simp [k1, g6, k2, hsc]
            | true =>
              have k2 : ¬ (last.toNat : Int) = 95 := fun h => by have := hlb.1 (u8_95.1 h); simp at this
              simp at hsc
              simp (disch := omega) [k1, g6, k2, g4, g0, g5, g24, g25, wrap64]
              have st : RadSt s (2) (u.drop (j + 1)) n 95 := ⟨false, n0, n1, by simp, hsc⟩
              exact ⟨i - 1, by omega, j + 1, by omega, by omega, 95, by rfl, st⟩
          · rw [if_neg c1] at hsc
            have k1 : ¬ (c.toNat : Int) = 95 := fun h => c1 (u8_95.1 h)
            simp [k1]
            refine WC.of (c253 D.d253) ?_
            rintro r H ⟨rfl, rfl⟩
            have hr := dv_range c
            by_cases c3 : dv c < 2
            · rw [if_pos c3] at hsc
              simp (disch := omega) [g4, g0, g5, g6, g24, g25, show ¬ 2 ≤ dv c by omega, wrap64]
              have st : RadSt s (2) (u.drop (j + 1)) (min (n * (2) + dv c) 9007199254740993) c := ⟨true, by omega, by omega, by simp [c1], hsc⟩
              exact ⟨i - 1, by omega, j + 1, by omega, by omega, c, rfl, st⟩
            · rw [if_neg c3] at hsc
              simp [g4, show 2 ≤ dv c by omega, hsc]
        · intro hlt
          simp at hlt
          rw [List.drop_eq_nil_of_le (by omega), scan] at hsc
          by_cases k2 : (last.toNat : Int) = 95
          · have : b = false := hlb.1 (u8_95.1 k2)
            rw [this] at hsc
            simp at hsc
            simp [g6, k2, hsc]
          · have hbt : b = true := by
              cases b with
              | true => rfl
              | false => exact absurd (u8_95.2 (hlb.2 rfl)) k2
            rw [hbt] at hsc
            simp at hsc
            by_cases c4 : 9007199254740992 < n
            · rw [if_neg (by omega)] at hsc
              simp [g6, k2, g5, c4, hsc]
            · rw [if_pos (by omega)] at hsc
              simp [g6, k2, g5, c4, hsc]
    · simp [h2]
      refine WC.of (c252 D.d252) ?_
      rintro r H ⟨rfl, rfl⟩
      by_cases h3 : s.take 1 = [48]
      · obtain ⟨t, rfl⟩ : ∃ t, s = 48 :: t := ⟨s.drop 1, by rw [← List.take_append_drop 1 s, h3]; rfl⟩
        have hrad : radixR (48 :: t) = scan 8 (48 :: t) 0 false := by
          rw [radix_oct (fun d y h => by
            subst h
            refine ⟨?_, ?_⟩
            · rintro rfl; exact h1 rfl
            · rintro rfl; exact h2 rfl)]
          rfl
        generalize hsv : 48 :: t = s at *
        simp [h3]
        refine W_loop (fun (i : Nat) e K => K = H ∧ e 4 = .int .i64 (8) ∧ e 0 = .str (s) ∧ e 24 = .int .i64 (s).length ∧ ∃ j : Nat, i + j = (s).length ∧ e 25 = .int .i64 j ∧ ∃ (n : Int) (last : UInt8), e 5 = .int .i64 n ∧ e 6 = .int .u8 last.toNat ∧ RadSt s (8) ((s).drop j) n last) id (s).length ?_ ?_
        · exact ⟨rfl, by simp [h3], by simp [h3], by simp [h3], 0, by simp, by simp, 0, 95, by simp, by simp, false, by omega, by omega, by simp, by rw [hrad, List.drop_zero]⟩
        · generalize s = u at *
          rintro i e H ⟨rfl, g4, g0, g24, j, hj, g25, n, last, g5, g6, b, n0, n1, hlb, hsc⟩
          simp [g24, g25]
          refine WB.bool ?_ ?_
          · intro hlt
            simp at hlt
            have ed := drop_nth hlt
            rw [ed, scan] at hsc
            obtain ⟨c, hc⟩ : ∃ c, nth u (j : Int) = c := ⟨_, rfl⟩
            rw [hc] at hsc ed
            simp (disch := omega) [g0, g25, hlt, hc]
            by_cases c1 : c = 95
            · rw [if_pos c1] at hsc
              have k1 : (c.toNat : Int) = 95 := u8_95.2 c1
              cases b with
              | false =>
                have k2 : (last.toNat : Int) = 95 := u8_95.2 (hlb.2 rfl)
                simp at hsc
                simp [k1, g6, k2, hsc]
              | true =>
                have k2 : ¬ (last.toNat : Int) = 95 := fun h => by have := hlb.1 (u8_95.1 h); simp at this
                simp at hsc
                simp (disch := omega) [k1, g6, k2, g4, g0, g5, g24, g25, wrap64]
                have st : RadSt u (8) (u.drop (j + 1)) n 95 := ⟨false, n0, n1, by simp, hsc⟩
                exact ⟨i - 1, by omega, j + 1, by omega, by omega, 95, by rfl, st⟩
            · rw [if_neg c1] at hsc
              have k1 : ¬ (c.toNat : Int) = 95 := fun h => c1 (u8_95.1 h)
              simp [k1]
              refine WC.of (c253 D.d253) ?_
              rintro r H ⟨rfl, rfl⟩
              have hr := dv_range c
              by_cases c3 : dv c < 8
              · rw [if_pos c3] at hsc
                simp (disch := omega) [g4, g0, g5, g6, g24, g25, show ¬ 8 ≤ dv c by omega, wrap64]
                have st : RadSt u (8) (u.drop (j + 1)) (min (n * (8) + dv c) 9007199254740993) c := ⟨true, by omega, by omega, by simp [c1], hsc⟩
                exact ⟨i - 1, by omega, j + 1, by omega, by omega, c, rfl, st⟩
              · rw [if_neg c3] at hsc
                simp [g4, show 8 ≤ dv c by omega, hsc]
          · intro hlt
            simp at hlt
            rw [List.drop_eq_nil_of_le (by omega), scan] at hsc
            by_cases k2 : (last.toNat : Int) = 95
            · have : b = false := hlb.1 (u8_95.1 k2)
              rw [this] at hsc
              simp at hsc
              simp [g6, k2, hsc]
            · have hbt : b = true := by
                cases b with
                | true => rfl
                | false => exact absurd (u8_95.2 (hlb.2 rfl)) k2
              rw [hbt] at hsc
              simp at hsc
              by_cases c4 : 9007199254740992 < n
              · rw [if_neg (by omega)] at hsc
                simp [g6, k2, g5, c4, hsc]
              · rw [if_pos (by omega)] at hsc
                simp [g6, k2, g5, c4, hsc]
      · have hrad : radixR s = scan 10 s 0 false := by
          cases s with
          | nil => rfl
          | cons c r => exact radix_other (by rintro rfl; exact h3 rfl)
        simp [h3]
        refine W_loop (fun (i : Nat) e K => K = H ∧ e 4 = .int .i64 (10) ∧ e 0 = .str (s) ∧ e 24 = .int .i64 (s).length ∧ ∃ j : Nat, i + j = (s).length ∧ e 25 = .int .i64 j ∧ ∃ (n : Int) (last : UInt8), e 5 = .int .i64 n ∧ e 6 = .int .u8 last.toNat ∧ RadSt s (10) ((s).drop j) n last) id (s).length ?_ ?_
        · exact ⟨rfl, by simp [h3], by simp [h3], by simp [h3], 0, by simp, by simp, 0, 95, by simp, by simp, false, by omega, by omega, by simp, by rw [hrad, List.drop_zero]⟩
        · generalize s = u at *
          rintro i e H ⟨rfl, g4, g0, g24, j, hj, g25, n, last, g5, g6, b, n0, n1, hlb, hsc⟩
          simp [g24, g25]
          refine WB.bool ?_ ?_
          · intro hlt
            simp at hlt
            have ed := drop_nth hlt
            rw [ed, scan] at hsc
            obtain ⟨c, hc⟩ : ∃ c, nth u (j : Int) = c := ⟨_, rfl⟩
            rw [hc] at hsc ed
            simp (disch := omega) [g0, g25, hlt, hc]
            by_cases c1 : c = 95
            · rw [if_pos c1] at hsc
              have k1 : (c.toNat : Int) = 95 := u8_95.2 c1
              cases b with
              | false =>
                have k2 : (last.toNat : Int) = 95 := u8_95.2 (hlb.2 rfl)
                simp at hsc
                simp [k1, g6, k2, hsc]
              | true =>
                have k2 : ¬ (last.toNat : Int) = 95 := fun h => by have := hlb.1 (u8_95.1 h); simp at this
                simp at hsc
                simp (disch := omega) [k1, g6, k2, g4, g0, g5, g24, g25, wrap64]
                have st : RadSt u (10) (u.drop (j + 1)) n 95 := ⟨false, n0, n1, by simp, hsc⟩
                exact ⟨i - 1, by omega, j + 1, by omega, by omega, 95, by rfl, st⟩
            · rw [if_neg c1] at hsc
              have k1 : ¬ (c.toNat : Int) = 95 := fun h => c1 (u8_95.1 h)
              simp [k1]
              refine WC.of (c253 D.d253) ?_
              rintro r H ⟨rfl, rfl⟩
              have hr := dv_range c
              by_cases c3 : dv c < 10
              · rw [if_pos c3] at hsc
                simp (disch := omega) [g4, g0, g5, g6, g24, g25, show ¬ 10 ≤ dv c by omega, wrap64]
                have st : RadSt u (10) (u.drop (j + 1)) (min (n * (10) + dv c) 9007199254740993) c := ⟨true, by omega, by omega, by simp [c1], hsc⟩
                exact ⟨i - 1, by omega, j + 1, by omega, by omega, c, rfl, st⟩
              · rw [if_neg c3] at hsc
                simp [g4, show 10 ≤ dv c by omega, hsc]
          · intro hlt
            simp at hlt
            rw [List.drop_eq_nil_of_le (by omega), scan] at hsc
            by_cases k2 : (last.toNat : Int) = 95
            · have : b = false := hlb.1 (u8_95.1 k2)
              rw [this] at hsc
              simp at hsc
              simp [g6, k2, hsc]
            · have hbt : b = true := by
                cases b with
                | true => rfl
                | false => exact absurd (u8_95.2 (hlb.2 rfl)) k2
              rw [hbt] at hsc
              simp at hsc
              by_cases c4 : 9007199254740992 < n
              · rw [if_neg (by omega)] at hsc
                simp [g6, k2, g5, c4, hsc]
              · rw [if_pos (by omega)] at hsc
                simp [g6, k2, g5, c4, hsc]

theorem c238 (D : D238 T) {H : AHeap} (hw : WF H) {s : List UInt8} : Calls T 238 [.str s] H fun r _ => r = .bool true := by
  refine Calls.fn D.pr D.fn ?_
  simp [ir238]
  refine WC.of (c240 D.d240) ?_
  rintro r H ⟨rfl, rfl⟩
  simp
  refine WB.bool ?_ ?_
  · intro h
    simp
    refine WC.of (c241 D.d241 hw) ?_
    rintro r H' rfl
    simp
  · intro h
    simp at h
    simp
    refine WC.of (c247 D.d247 (by omega)) ?_
    rintro r H ⟨rfl, rfl⟩
    simp
    refine WC.of (c248 D.d248 (by omega)) ?_
    rintro r H ⟨rfl, rfl⟩
    simp
    refine WC.of (c241 D.d241 hw) ?_
    rintro r H' rfl
    simp

theorem law238 (D : D238 T) {K : AHeap} {as : List AV} (hw : WF K) (hg : Goods K [.str] as) : Calls T 238 as K fun v _ => v = .bool true := by
  obtain ⟨a, r, rfl, g1, rfl⟩ := hg
  obtain ⟨s, rfl, _⟩ := g1.str
  exact c238 D hw
end Go.Am
