/- Contracts: an operation as the document says, texts as numbers, and what is known. -/
import Derived.Test.YtepgjaknkjkpaaaDoorAmNumsA
import Derived.Test.YtepgjaknkjkpaaaDoorAmSlice
import Derived.Test.YtepgjaknkjkpaaaDoorAmIrLaw01
set_option linter.unusedVariables false
set_option linter.unusedSimpArgs false
namespace Go.Am
variable {T : Tab}

theorem c166 (D : D166 T) {H : AHeap} {op a b : Int} : Calls T 166 [.int .i64 op, .int .i64 a, .int .i64 b] H fun r H' => H' = H ∧ r = pr3 (doR op a b) := by
  refine Calls.fn D.pr D.fn ?_
  by_cases h1 : op < 0
  · have e : doR op a b = (0, 0, 1) := by unfold doR; rw [if_pos (.inl h1)]
    simp [ir166, h1, e]
  by_cases h2 : 8 < op
  · have e : doR op a b = (0, 0, 1) := by unfold doR; rw [if_pos (.inr (.inl h2))]
    simp [ir166, h1, h2, e]
  simp [ir166, h1, h2]
  refine WC.of (c165 D.d165) ?_
  rintro r H ⟨rfl, rfl⟩
  by_cases h3 : inN a
  · simp [h3]
    refine WC.of (c165 D.d165) ?_
    rintro r H ⟨rfl, rfl⟩
    by_cases h4 : inN b
    · have e := show doR op a b = _ by unfold doR; rw [if_neg (by simp [h3, h4]; omega)]
      have h3' := h3
      have h4' := h4
      unfold inN at h3' h4'
      have fin : ∀ n : Int, (decide (inN n) = true → lim n = (n, 0)) ∧ (decide (inN n) = false → lim n = (0, 1)) := by
        intro n
        unfold lim
        constructor <;> intro h <;> simp at h <;> simp [h]
      rw [e]
      have cases : op = 0 ∨ op = 1 ∨ op = 2 ∨ op = 3 ∨ op = 4 ∨ op = 5 ∨ op = 6 ∨ op = 7 ∨ op = 8 := by omega
      rcases cases with rfl | rfl | rfl | rfl | rfl | rfl | rfl | rfl | rfl
      · simp (disch := omega) [h4, wrap64]
        refine WC.of (c165 D.d165) ?_
        rintro r H ⟨rfl, rfl⟩
        by_cases h : inN (a + b) <;> simp [h, lim]
      · simp (disch := omega) [h4, wrap64]
        refine WC.of (c165 D.d165) ?_
        rintro r H ⟨rfl, rfl⟩
        by_cases h : inN (a - b) <;> simp [h, lim]
      · simp (disch := omega) [h4]
        refine WC.of (c180 D.d180 h3 h4) ?_
        rintro r H ⟨rfl, p, rfl, hp⟩
        rw [← hp]
        simp
        refine WC.of (c165 D.d165) ?_
        rintro r H ⟨rfl, rfl⟩
        by_cases h : inN p <;> simp [h, lim]
      · by_cases h0 : b = 0
        · subst h0; simp [h4]
        · simp [h4, h0]
          refine WC.of (c181 D.d181 h3 h4 h0) ?_
          rintro r H ⟨rfl, rfl⟩
          simp
          refine WC.of (c165 D.d165) ?_
          rintro r H ⟨rfl, rfl⟩
          by_cases h : inN (floorR a b).1 <;> simp [h, lim]
      · by_cases h0 : b = 0
        · subst h0; simp [h4]
        · simp [h4, h0]
          refine WC.of (c181 D.d181 h3 h4 h0) ?_
          rintro r H ⟨rfl, rfl⟩
          have hl := floorR_law (a := a) h0
          have hs := floorR_small (a := a) h0
          obtain ⟨p, hp⟩ : ∃ p, b * (floorR a b).1 = p := ⟨_, rfl⟩
          rw [hp] at hl
          have hsub : a - p = (floorR a b).2 := by omega
          have wp : IntKind.i64.wrap p = p := wrap64 (by omega) (by omega)
          have ws : IntKind.i64.wrap ((floorR a b).2) = (floorR a b).2 := wrap64 (by omega) (by omega)
          simp [hp, wp, hsub, ws]
          refine WC.of (c165 D.d165) ?_
          rintro r H ⟨rfl, rfl⟩
          by_cases h : inN (floorR a b).2 <;> simp [h, lim]
      · by_cases h0 : b < 0
        · simp [h4, h0, powR]
        · simp [h4, h0]
          refine WC.of (c182 D.d182 h3 h4 (by omega)) ?_
          rintro r H ⟨rfl, p, rfl, hp⟩
          rw [← hp]
          simp
          refine WC.of (c165 D.d165) ?_
          rintro r H ⟨rfl, rfl⟩
          by_cases h : inN p <;> simp [h, lim]
      all_goals
        by_cases h0 : a < 0
        · simp [h4, h0]
        · by_cases h5 : b < 0
          · simp [h4, h0, h5]
          · simp [h4, h0, h5]
            refine WC.of (c183 D.d183 (by omega) h3 h4 (by omega) (by omega)) ?_
            rintro r H ⟨rfl, rfl⟩
            simp
            refine WC.of (c165 D.d165) ?_
            rintro r H ⟨rfl, rfl⟩
            generalize ((bitN _ a.toNat b.toNat : Nat) : Int) = n
            by_cases h : inN n <;> simp [h, lim]
    · have e : doR op a b = (0, 0, 1) := by unfold doR; rw [if_pos (by simp [h4])]
      simp [h4, e]
  · have e : doR op a b = (0, 0, 1) := by unfold doR; rw [if_pos (by simp [h3])]
    simp [h3, e]

/-! ### Texts as numbers -/
def blankB (c : UInt8) : Bool := c = 9 || c = 10 || c = 13 || c = 32
def digitB (c : UInt8) : Bool := 48 ≤ c && c ≤ 57
theorem u8_eqk (c : UInt8) (k : Nat) (hk : k < 256) : ((c.toNat : Int) = (k : Int)) ↔ c = UInt8.ofNat k := by
  constructor
  · intro h
    apply UInt8.toNat_inj.1
    rw [UInt8.toNat_ofNat_of_lt' (by simpa using hk)]
    omega
  · rintro rfl
    rw [UInt8.toNat_ofNat_of_lt' (by simpa using hk)]

theorem blank_iff (c : UInt8) : blankB c = decide ((c.toNat : Int) = 9 ∨ (c.toNat : Int) = 10 ∨ (c.toNat : Int) = 13 ∨ (c.toNat : Int) = 32) := by
  have h1 := u8_eqk c 9 (by omega)
  have h2 := u8_eqk c 10 (by omega)
  have h3 := u8_eqk c 13 (by omega)
  have h4 := u8_eqk c 32 (by omega)
  unfold blankB
  have e1 : ((c.toNat : Int) = 9) ↔ c = 9 := h1
  have e2 : ((c.toNat : Int) = 10) ↔ c = 10 := h2
  have e3 : ((c.toNat : Int) = 13) ↔ c = 13 := h3
  have e4 : ((c.toNat : Int) = 32) ↔ c = 32 := h4
  simp [e1, e2, e3, e4, Bool.decide_or, Bool.or_assoc]
theorem digit_iff (c : UInt8) : digitB c = decide (48 ≤ (c.toNat : Int) ∧ (c.toNat : Int) ≤ 57) := by
  have e1 : (48 ≤ c) ↔ (48 ≤ (c.toNat : Int)) := by rw [UInt8.le_iff_toNat_le]; simp; omega
  have e2 : (c ≤ 57) ↔ ((c.toNat : Int) ≤ 57) := by rw [UInt8.le_iff_toNat_le]; simp; omega
  unfold digitB
  simp [e1, e2, Bool.decide_and]

theorem c214 (D : D214 T) {H : AHeap} {c : UInt8} : Calls T 214 [.int .u8 c.toNat] H fun r H' => H' = H ∧ r = .bool (blankB c) := by
  refine Calls.fn D.pr D.fn ?_
  rw [blank_iff]
  generalize (c.toNat : Int) = n
  by_cases h1 : n = 9
  · simp [ir214, h1]
  · by_cases h2 : n = 10
    · simp [ir214, h1, h2]
    · by_cases h3 : n = 13
      · simp [ir214, h1, h2, h3]
      · simp [ir214, h1, h2, h3]
theorem c212 (D : D212 T) {H : AHeap} {c : UInt8} : Calls T 212 [.int .u8 c.toNat] H fun r H' => H' = H ∧ r = .bool (blankB c) := by
  refine Calls.fn D.pr D.fn ?_
  rw [blank_iff]
  generalize (c.toNat : Int) = n
  by_cases h1 : n = 9
  · simp [ir212, h1]
  · by_cases h2 : n = 10
    · simp [ir212, h1, h2]
    · by_cases h3 : n = 13
      · simp [ir212, h1, h2, h3]
      · simp [ir212, h1, h2, h3]
theorem c215 (D : D215 T) {H : AHeap} {c : UInt8} : Calls T 215 [.int .u8 c.toNat] H fun r H' => H' = H ∧ r = .bool (digitB c) := by
  refine Calls.fn D.pr D.fn ?_
  rw [digit_iff]
  generalize (c.toNat : Int) = n
  by_cases h1 : 48 ≤ n <;> simp [ir215, h1]
theorem c213 (D : D213 T) {H : AHeap} {c : UInt8} : Calls T 213 [.int .u8 c.toNat] H fun r H' => H' = H ∧ r = .bool (digitB c) := by
  refine Calls.fn D.pr D.fn ?_
  rw [digit_iff]
  generalize (c.toNat : Int) = n
  by_cases h1 : 48 ≤ n <;> simp [ir213, h1]

theorem take_while_at {p : UInt8 → Bool} {s : List UInt8} {k : Nat} (hk : k ≤ s.length) (h1 : ∀ x ∈ s.take k, p x = true) (h2 : ∀ h : k < s.length, p s[k] = false) : s.takeWhile p = s.take k ∧ s.dropWhile p = s.drop k := by
  induction s generalizing k with
  | nil => simp
  | cons x s ih =>
    cases k with
    | zero =>
      have := h2 (by simp)
      simp at this
      simp [this]
    | succ k =>
      have hx := h1 x (by simp)
      obtain ⟨i1, i2⟩ := ih (k := k) (by simpa using hk) (fun y hy => h1 y (by simp [hy])) (fun h => by have := h2 (by simpa using h); simpa using this)
      simp [hx, i1, i2]

/-- Behind blanks and a sign. -/
def afterB (s : List UInt8) : List UInt8 := s.dropWhile blankB
def negB (s : List UInt8) : Bool := match afterB s with | c :: _ => c = 45 | [] => false
def bodyB (s : List UInt8) : List UInt8 := match afterB s with | c :: r => if c = 43 ∨ c = 45 then r else c :: r | [] => []

theorem u8k {c : UInt8} : (((c.toNat : Int) = 43) ↔ c = 43) ∧ (((c.toNat : Int) = 45) ↔ c = 45) := ⟨u8_eqk c 43 (by omega), u8_eqk c 45 (by omega)⟩

theorem c209 (D : D209 T) {H : AHeap} {s : List UInt8} (hs : s.length < 2 ^ 62) : Calls T 209 [.str s] H fun r H' => H' = H ∧ r = .tup [.bool (negB s), .str ((bodyB s).takeWhile digitB), .str ((bodyB s).dropWhile digitB)] := by
  refine Calls.fn D.pr D.fn ?_
  simp [ir209]
  refine W_loop (fun (i : Nat) e K => K = H ∧ ∃ t : List UInt8, e 0 = .str t ∧ t.length = i ∧ afterB t = afterB s ∧ t.length ≤ s.length) id s.length ?_ ?_
  · exact ⟨rfl, s, by simp, rfl, rfl, Nat.le_refl _⟩
  · rintro i e H ⟨rfl, t, h0, hl, ha, hts⟩
    have hbl : (bodyB s).length ≤ s.length := by
      have h1 : (afterB s).length ≤ s.length := (List.dropWhile_sublist _).length_le
      unfold bodyB
      split
      · rename_i c r e1
        rw [e1] at h1
        split
        · simp at h1; omega
        · exact h1
      · simp
    have digits : ∀ (e : Env) (H : AHeap) (i : Nat), True := fun _ _ _ => trivial
    have hcase : (t = [] ∧ bodyB s = [] ∧ negB s = false) ∨ ∃ c r, t = c :: r ∧ (blankB c = true ∨ (blankB c = false ∧ bodyB s = (if c = 43 ∨ c = 45 then r else c :: r) ∧ negB s = decide (c = 45))) := by
      cases t with
      | nil =>
        have e1 : afterB s = [] := by rw [← ha]; rfl
        exact .inl ⟨rfl, by unfold bodyB; rw [e1], by unfold negB; rw [e1]⟩
      | cons c r =>
        refine .inr ⟨c, r, rfl, ?_⟩
        cases hb : blankB c with
        | true => exact .inl rfl
        | false =>
          have e1 : afterB s = c :: r := by rw [← ha]; unfold afterB; simp [hb]
          exact .inr ⟨rfl, by unfold bodyB; rw [e1], by unfold negB; rw [e1]⟩
    rcases hcase with ⟨rfl, e2, e3⟩ | ⟨c, r, rfl, hb | ⟨hb, e2, e3⟩⟩
    · simp [h0]
      refine W_loop (fun (i : Nat) e K => K = H ∧ e 0 = .str (bodyB s) ∧ e 5 = .bool (negB s) ∧ ∃ k : Nat, i + k = (bodyB s).length ∧ e 6 = .int .i64 k ∧ ∀ x ∈ (bodyB s).take k, digitB x = true) id (bodyB s).length ?_ ?_
      · exact ⟨rfl, by simp [h0, e2], by simp [e3], 0, by simp, by simp, by simp⟩
      · rintro i e H ⟨rfl, g0, g5, k, hk, g6, hd⟩
        have fin : (∀ h : k < (bodyB s).length, digitB (bodyB s)[k] = false) → (bodyB s).takeWhile digitB = (bodyB s).take k ∧ (bodyB s).dropWhile digitB = (bodyB s).drop k := take_while_at (by omega) hd
        generalize hu : bodyB s = u at *
        by_cases hkl : k < u.length
        · have eu : nth u (k : Int) = u[k] := by simp [nth, List.getElem?_eq_getElem hkl]
          simp (disch := omega) [g0, g6, hkl]
          refine WC.of (c215 D.d215) ?_
          rintro r H ⟨rfl, rfl⟩
          cases hdg : digitB (nth u (k : Int)) with
          | true =>
            simp (disch := omega) [g0, g5, g6, wrap64]
            refine ⟨i - 1, by omega, k + 1, by omega, by omega, ?_⟩
            rw [take_nth hkl]
            intro x hx
            rcases List.mem_append.1 hx with hx | hx
            · exact hd x hx
            · rw [List.mem_singleton.1 hx]; exact hdg
          | false =>
            obtain ⟨e1, e2⟩ := fin fun h => by rw [← eu]; exact hdg
            simp [g0, g5, g6, e1, e2]
            omega
        · obtain ⟨e1, e2⟩ := fin fun h => absurd h hkl
          simp [g0, g5, g6, hkl, e1, e2]
          omega
    · have e1 : nth (c :: r) 0 = c := nth_cons
      simp [h0, e1]
      refine WC.of (c214 D.d214) ?_
      rintro r2 H ⟨rfl, rfl⟩
      simp [hb, h0]
      refine ⟨by omega, r.length, by simp at hl; omega, rfl, ?_, by simp at hts; omega⟩
      rw [← ha]; unfold afterB; simp [hb]
    · have e1 : nth (c :: r) 0 = c := nth_cons
      simp [h0, e1]
      refine WC.of (c214 D.d214) ?_
      rintro r2 H ⟨rfl, rfl⟩
      by_cases c1 : c = 43
      · subst c1
        simp [hb, h0, e1]
        refine ⟨by omega, ?_⟩
        refine W_loop (fun (i : Nat) e K => K = H ∧ e 0 = .str (bodyB s) ∧ e 5 = .bool (negB s) ∧ ∃ k : Nat, i + k = (bodyB s).length ∧ e 6 = .int .i64 k ∧ ∀ x ∈ (bodyB s).take k, digitB x = true) id (bodyB s).length ?_ ?_
        · exact ⟨rfl, by simp [e2], by simp [e3], 0, by simp, by simp, by simp⟩
        · rintro i e H ⟨rfl, g0, g5, k, hk, g6, hd⟩
          have fin : (∀ h : k < (bodyB s).length, digitB (bodyB s)[k] = false) → (bodyB s).takeWhile digitB = (bodyB s).take k ∧ (bodyB s).dropWhile digitB = (bodyB s).drop k := take_while_at (by omega) hd
          generalize hu : bodyB s = u at *
          by_cases hkl : k < u.length
          · have eu : nth u (k : Int) = u[k] := by simp [nth, List.getElem?_eq_getElem hkl]
            simp (disch := omega) [g0, g6, hkl]
            refine WC.of (c215 D.d215) ?_
            rintro r H ⟨rfl, rfl⟩
            cases hdg : digitB (nth u (k : Int)) with
            | true =>
              simp (disch := omega) [g0, g5, g6, wrap64]
              refine ⟨i - 1, by omega, k + 1, by omega, by omega, ?_⟩
              rw [take_nth hkl]
              intro x hx
              rcases List.mem_append.1 hx with hx | hx
              · exact hd x hx
              · rw [List.mem_singleton.1 hx]; exact hdg
            | false =>
              obtain ⟨e1, e2⟩ := fin fun h => by rw [← eu]; exact hdg
              simp [g0, g5, g6, e1, e2]
              omega
          · obtain ⟨e1, e2⟩ := fin fun h => absurd h hkl
            simp [g0, g5, g6, hkl, e1, e2]
            omega
      · by_cases c2 : c = 45
        · subst c2
          simp [hb, h0, e1]
          refine ⟨by omega, ?_⟩
          refine W_loop (fun (i : Nat) e K => K = H ∧ e 0 = .str (bodyB s) ∧ e 5 = .bool (negB s) ∧ ∃ k : Nat, i + k = (bodyB s).length ∧ e 6 = .int .i64 k ∧ ∀ x ∈ (bodyB s).take k, digitB x = true) id (bodyB s).length ?_ ?_
          · exact ⟨rfl, by simp [e2], by simp [e3], 0, by simp, by simp, by simp⟩
          · rintro i e H ⟨rfl, g0, g5, k, hk, g6, hd⟩
            have fin : (∀ h : k < (bodyB s).length, digitB (bodyB s)[k] = false) → (bodyB s).takeWhile digitB = (bodyB s).take k ∧ (bodyB s).dropWhile digitB = (bodyB s).drop k := take_while_at (by omega) hd
            generalize hu : bodyB s = u at *
            by_cases hkl : k < u.length
            · have eu : nth u (k : Int) = u[k] := by simp [nth, List.getElem?_eq_getElem hkl]
              simp (disch := omega) [g0, g6, hkl]
              refine WC.of (c215 D.d215) ?_
              rintro r H ⟨rfl, rfl⟩
              cases hdg : digitB (nth u (k : Int)) with
              | true =>
                simp (disch := omega) [g0, g5, g6, wrap64]
                refine ⟨i - 1, by omega, k + 1, by omega, by omega, ?_⟩
                rw [take_nth hkl]
                intro x hx
                rcases List.mem_append.1 hx with hx | hx
                · exact hd x hx
                · rw [List.mem_singleton.1 hx]; exact hdg
              | false =>
                obtain ⟨e1, e2⟩ := fin fun h => by rw [← eu]; exact hdg
                simp [g0, g5, g6, e1, e2]
                omega
            · obtain ⟨e1, e2⟩ := fin fun h => absurd h hkl
              simp [g0, g5, g6, hkl, e1, e2]
              omega
        · have k1 : ¬ (c.toNat : Int) = 43 := fun h => c1 (u8k.1.1 h)
          have k2 : ¬ (c.toNat : Int) = 45 := fun h => c2 (u8k.2.1 h)
          simp [hb, h0, e1, k1, k2]
          refine W_loop (fun (i : Nat) e K => K = H ∧ e 0 = .str (bodyB s) ∧ e 5 = .bool (negB s) ∧ ∃ k : Nat, i + k = (bodyB s).length ∧ e 6 = .int .i64 k ∧ ∀ x ∈ (bodyB s).take k, digitB x = true) id (bodyB s).length ?_ ?_
          · exact ⟨rfl, by simp [h0, e2, c1, c2], by simp [e3, c2], 0, by simp, by simp, by simp⟩
          · rintro i e H ⟨rfl, g0, g5, k, hk, g6, hd⟩
            have fin : (∀ h : k < (bodyB s).length, digitB (bodyB s)[k] = false) → (bodyB s).takeWhile digitB = (bodyB s).take k ∧ (bodyB s).dropWhile digitB = (bodyB s).drop k := take_while_at (by omega) hd
            generalize hu : bodyB s = u at *
            by_cases hkl : k < u.length
            · have eu : nth u (k : Int) = u[k] := by simp [nth, List.getElem?_eq_getElem hkl]
              simp (disch := omega) [g0, g6, hkl]
              refine WC.of (c215 D.d215) ?_
              rintro r H ⟨rfl, rfl⟩
              cases hdg : digitB (nth u (k : Int)) with
              | true =>
                simp (disch := omega) [g0, g5, g6, wrap64]
                refine ⟨i - 1, by omega, k + 1, by omega, by omega, ?_⟩
                rw [take_nth hkl]
                intro x hx
                rcases List.mem_append.1 hx with hx | hx
                · exact hd x hx
                · rw [List.mem_singleton.1 hx]; exact hdg
              | false =>
                obtain ⟨e1, e2⟩ := fin fun h => by rw [← eu]; exact hdg
                simp [g0, g5, g6, e1, e2]
                omega
            · obtain ⟨e1, e2⟩ := fin fun h => absurd h hkl
              simp [g0, g5, g6, hkl, e1, e2]
              omega
end Go.Am
