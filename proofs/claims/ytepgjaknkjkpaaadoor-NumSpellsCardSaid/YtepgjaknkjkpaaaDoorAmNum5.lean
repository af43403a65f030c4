/- Contracts: texts as numbers; which texts look like numbers; how numbers and texts are compared; what operations give. -/
import Derived.Test.YtepgjaknkjkpaaaDoorAmNum4
set_option linter.unusedVariables false
set_option linter.unusedSimpArgs false
namespace Go.Am
variable {T : Tab}

def numD (l : List UInt8) : Int := l.foldl (fun n c => min (10 * n + c.toNat - 48) 9007199254740992) 0
theorem numD_snoc (l : List UInt8) (c : UInt8) : numD (l ++ [c]) = min (10 * numD l + c.toNat - 48) 9007199254740992 := by simp [numD, List.foldl_append]
def digsB (s : List UInt8) : List UInt8 := (bodyB s).takeWhile digitB
def restB (s : List UInt8) : List UInt8 := (bodyB s).dropWhile digitB
def ofB (s : List UInt8) : Int := if negB s then -(numD (digsB s)) else numD (digsB s)

theorem digs_digit {s : List UInt8} : ∀ c ∈ digsB s, digitB c = true := by
  unfold digsB
  generalize bodyB s = l
  intro c hc
  induction l with
  | nil => simp at hc
  | cons x l ih =>
    rw [List.takeWhile_cons] at hc
    split at hc
    · rename_i hx
      rcases List.mem_cons.1 hc with e | hc
      · subst e; exact hx
      · exact ih hc
    · simp at hc

theorem digit_bounds {c : UInt8} (h : digitB c = true) : 48 ≤ (c.toNat : Int) ∧ (c.toNat : Int) ≤ 57 := by
  rw [digit_iff] at h; simpa using h

theorem body_len (s : List UInt8) : (bodyB s).length ≤ s.length := by
  have h1 : (afterB s).length ≤ s.length := (List.dropWhile_sublist _).length_le
  unfold bodyB
  split
  · rename_i c r e1
    rw [e1] at h1
    split
    · simp at h1; omega
    · exact h1
  · simp
theorem digs_len (s : List UInt8) : (digsB s).length ≤ s.length := Nat.le_trans (List.takeWhile_sublist _).length_le (body_len s)
theorem rest_len (s : List UInt8) : (restB s).length ≤ s.length := Nat.le_trans (List.dropWhile_sublist _).length_le (body_len s)

theorem c189 (D : D189 T) {H : AHeap} {s : List UInt8} (hs : s.length < 2 ^ 62) : Calls T 189 [.str s] H fun r H' => H' = H ∧ r = .int .i64 (ofB s) ∧ inN (ofB s) := by
  refine Calls.fn D.pr D.fn ?_
  simp [ir189]
  refine WC.of (c209 D.d209 hs) ?_
  rintro r H ⟨rfl, rfl⟩
  have hl := digs_len s
  have hdg := digs_digit (s := s)
  show WO T _ _ _ _ _
  have e1 : (bodyB s).takeWhile digitB = digsB s := rfl
  rw [e1]
  have e2 : ofB s = if negB s = true then -(numD (digsB s)) else numD (digsB s) := rfl
  rw [e2]
  generalize digsB s = u at *
  simp
  refine W_loop (fun (i : Nat) e K => K = H ∧ e 3 = .bool (negB s) ∧ e 4 = .str u ∧ e 15 = .int .i64 u.length ∧ ∃ j : Nat, i + j = u.length ∧ e 16 = .int .i64 j ∧ e 6 = .int .i64 (numD (u.take j)) ∧ 0 ≤ numD (u.take j) ∧ numD (u.take j) ≤ 9007199254740992) id u.length ?_ ?_
  · exact ⟨rfl, by simp, by simp, by simp, 0, by simp, by simp, by simp [numD], by simp [numD], by simp [numD]⟩
  · rintro i e H ⟨rfl, h3, h4, h15, j, hj, h16, h6, n0, n1⟩
    simp [h15, h16]
    refine WB.bool ?_ ?_
    · intro hlt
      simp at hlt
      have et : numD (u.take (j + 1)) = min (10 * numD (u.take j) + (nth u (j : Int)).toNat - 48) 9007199254740992 := by rw [take_nth hlt]; exact numD_snoc _ _
      obtain ⟨b1, b2⟩ := digit_bounds (hdg _ (nth_mem hlt))
      obtain ⟨c, hc⟩ : ∃ c, nth u (j : Int) = c := ⟨_, rfl⟩
      rw [hc] at et b1 b2
      generalize numD (u.take j) = n at *
      simp (disch := omega) [hc, h3, h4, h6, h15, h16, hlt, wrap64, wrapU8]
      exact ⟨i - 1, by omega, j + 1, by omega, by omega, by rw [et], by rw [et]; omega, by rw [et]; omega⟩
    · intro hlt
      simp at hlt
      rw [List.take_of_length_le (by omega)] at h6 n0 n1
      simp [h3]
      refine WB.bool ?_ ?_
      · intro hb
        simp (disch := omega) [h6, hb, wrap64, inN]
        omega
      · intro hb
        simp [h6, hb, inN]
        omega

def validB (x : Scal) : Int :=
  if 4096 < x.s.length then 3 else
  if (x.kind = 0 ∧ x.n = 0 ∧ x.s = []) ∨ (x.kind = 1 ∧ inN x.n ∧ x.s = []) ∨ (x.kind = 2 ∧ x.n = 0) then 0 else 1

theorem scal_cells (x : Scal) : (encC x).cells.all AV.cell = true := by simp [AV.cells, AV.cell]

theorem c188 (D : D188 T) {H : AHeap} (hw : WF H) {x : Scal} : Calls T 188 [encC x] H fun r H' => Fr H H' ∧ r = .int .i64 (validB x) := by
  refine Calls.fn D.pr D.fn ?_
  obtain ⟨kind, n, s, taint⟩ := x
  have f0 : Fr H (H.new [.int .i64 kind, .int .i64 n, .str s, .bool taint]) := hw.fr_new
  have bx : Box (H.new [.int .i64 kind, .int .i64 n, .str s, .bool taint]) H.next H.next _ := Box.new
  have l0 := bx.ldn (i := 0) rfl
  have l1 := bx.ldn (i := 1) rfl
  have l2 := bx.ldn (i := 2) rfl
  obtain ⟨K, hK⟩ : ∃ K, H.new [.int .i64 kind, .int .i64 n, .str s, .bool taint] = K := ⟨_, rfl⟩
  rw [hK] at f0 bx l0 l1 l2
  by_cases h0 : 4096 < s.length
  · simp [ir188, AV.cells, AV.cell, hK, l2, validB, h0, show (4096 : Int) < s.length by omega, f0]
  simp [ir188, AV.cells, AV.cell, hK, l0, l2, show ¬ (4096 : Int) < s.length by omega]
  by_cases k0 : kind = 0
  · subst k0
    by_cases hn : n = 0 <;> by_cases hs : s = [] <;> simp [l1, l2, hn, hs, validB, h0, f0]
  · by_cases k1 : kind = 1
    · subst k1
      simp [l1]
      refine WC.of (c185 D.d185) ?_
      rintro r K2 ⟨rfl, rfl⟩
      by_cases hn : inN n <;> by_cases hs : s = [] <;> simp [l1, l2, hn, hs, validB, h0, f0]
    · by_cases k2 : kind = 2
      · subst k2
        by_cases hn : n = 0 <;> simp [l1, hn, validB, h0, f0]
      · simp [k0, k1, k2, validB, h0, f0]

def numR (x : Scal) : Int × Int := if validB x ≠ 0 then (0, validB x) else if x.kind = 2 then (ofB x.s, 0) else (x.n, 0)

theorem valid_len {x : Scal} (h : validB x = 0) : x.s.length ≤ 4096 := by
  unfold validB at h
  split at h
  · cases h
  · omega

theorem c170 (D : D170 T) {H : AHeap} (hw : WF H) {x : Scal} : Calls T 170 [encC x] H fun r H' => Fr H H' ∧ r = pr2 (numR x) := by
  refine Calls.fn D.pr D.fn ?_
  have f0 : Fr H (H.new (encC x).cells) := hw.fr_new
  have bx : Box (H.new (encC x).cells) H.next H.next _ := Box.new
  have lA := bx.ldA (n := 4) rfl
  simp only [AV.cells] at f0 bx lA
  simp [ir170, AV.cells, AV.cell, lA]
  refine WC.of (c188 D.d188 f0.wf (x := x)) ?_
  rintro r H1 ⟨f1, rfl⟩
  have bx1 := bx.keeps f0.wf f1.keeps (by show ¬ (H.next + 1 ≤ H.next); omega)
  have l0 := bx1.ldn (i := 0) rfl
  have l1 := bx1.ldn (i := 1) rfl
  have l2 := bx1.ldn (i := 2) rfl
  by_cases hv : validB x = 0
  · simp [hv, l0]
    by_cases hk : x.kind = 2
    · simp [hk, l2]
      refine WC.of (c189 D.d189 (by have := valid_len hv; omega)) ?_
      rintro r H1 ⟨rfl, rfl, _⟩
      simp [numR, hv, hk, f0.trans f1]
    · simp [hk, l1, numR, hv, f0.trans f1]
  · simp [hv, numR, f0.trans f1]

def looksB (s : List UInt8) : Bool := (restB s).all blankB && decide (digsB s ≠ [])

theorem c242 (D : D242 T) {H : AHeap} {s : List UInt8} (hs : s.length < 2 ^ 62) : Calls T 242 [.str s] H fun r H' => H' = H ∧ r = .bool (looksB s) := by
  refine Calls.fn D.pr D.fn ?_
  simp [ir242]
  refine WC.of (c209 D.d209 hs) ?_
  rintro r H ⟨rfl, rfl⟩
  have hl := rest_len s
  have e1 : (bodyB s).takeWhile digitB = digsB s := rfl
  have e3 : (bodyB s).dropWhile digitB = restB s := rfl
  rw [e1, e3]
  unfold looksB
  generalize digsB s = d at *
  generalize restB s = u at *
  simp
  refine W_loop (fun (i : Nat) e K => K = H ∧ e 4 = .str d ∧ e 5 = .str u ∧ e 14 = .int .i64 u.length ∧ ∃ j : Nat, i + j = u.length ∧ e 15 = .int .i64 j ∧ (u.take j).all blankB = true) id u.length ?_ ?_
  · exact ⟨rfl, by simp, by simp, by simp, 0, by simp, by simp, by simp⟩
  · rintro i e H ⟨rfl, h4, h5, h14, j, hj, h15, hb⟩
    simp [h14, h15]
    refine WB.bool ?_ ?_
    · intro hlt
      simp at hlt
      have et := take_nth hlt
      have hm := nth_mem hlt
      simp (disch := omega) [h4, h5, h15, hlt]
      refine WC.of (c214 D.d214) ?_
      rintro r H ⟨rfl, rfl⟩
      cases hbl : blankB (nth u (j : Int)) with
      | true =>
        simp (disch := omega) [h4, h5, h14, h15, wrap64]
        refine ⟨i - 1, by omega, j + 1, by omega, by omega, ?_⟩
        have : (u.take (j + 1)).all blankB = true := by rw [et, List.all_append, hb]; simp [hbl]
        simpa using this
      | false =>
        have : u.all blankB = false := by
          rw [List.all_eq_false]
          exact ⟨_, hm, by simp [hbl]⟩
        simp [this]
    · intro hlt
      simp at hlt
      rw [List.take_of_length_le (by omega)] at hb
      simp [h4, hb]
/-- Where the digits begin and where they end. -/
structure HeadOk (s : List UInt8) (i k : Nat) : Prop where
  body : s.drop i = bodyB s
  le : i ≤ s.length
  dig : k = i + (digsB s).length
  neg : (0 < i ∧ nth s ((i : Int) - 1) = 45) ↔ negB s = true

theorem take_while_at' {p : UInt8 → Bool} {s : List UInt8} {k : Nat} (hk : k ≤ s.length) (h1 : ∀ x ∈ s.take k, p x = true) (h2 : k < s.length → p (nth s (k : Int)) = false) : s.takeWhile p = s.take k ∧ s.dropWhile p = s.drop k :=
  take_while_at hk h1 fun h => by have := h2 h; rwa [show nth s (k : Int) = s[k] by simp [nth, List.getElem?_eq_getElem h]] at this
theorem nth_drop {s : List UInt8} {i k : Nat} (h : i ≤ k) : nth (s.drop i) ((k - i : Nat) : Int) = nth s (k : Int) := by
  simp only [nth, List.getD, Int.toNat_natCast, List.getElem?_drop]
  rw [show i + (k - i) = k by omega]
theorem take_len {p : UInt8 → Bool} {s : List UInt8} {k : Nat} (h : s.takeWhile p = s.take k) (hk : k ≤ s.length) : (s.takeWhile p).length = k := by rw [h]; simp; omega

theorem c208 (D : D208 T) {H : AHeap} {s : List UInt8} (hs : s.length < 2 ^ 62) : Calls T 208 [.str s] H fun r H' => H' = H ∧ ∃ i k : Nat, r = .tup [.int .i64 i, .int .i64 k] ∧ HeadOk s i k := by
  refine Calls.fn D.pr D.fn ?_
  simp [ir208]
  refine W_loop (fun (m : Nat) e K => K = H ∧ e 0 = .str s ∧ ∃ i : Nat, m + i = s.length ∧ e 4 = .int .i64 i ∧ ∀ x ∈ s.take i, blankB x = true) id s.length ?_ ?_
  · exact ⟨rfl, by simp, 0, by simp, by simp, by simp⟩
  · rintro m e H ⟨rfl, h0, i, hi, h4, hb⟩
    have second : ∀ n : Nat, HeadOk s n (n + (digsB s).length) → ∃ n : Nat, n ≤ s.length ∧ True := fun n _ => ⟨0, by omega, trivial⟩
    by_cases hil : i < s.length
    · have ei : nth s (i : Int) = s[i] := by simp [nth, List.getElem?_eq_getElem hil]
      have ed : s.drop i = nth s (i : Int) :: s.drop (i + 1) := by rw [ei]; exact List.drop_eq_getElem_cons hil
      simp (disch := omega) [h0, h4, hil]
      refine WC.of (c212 D.d212) ?_
      rintro r H ⟨rfl, rfl⟩
      cases hbl : blankB (nth s (i : Int)) with
      | true =>
        simp (disch := omega) [h0, h4, wrap64]
        refine ⟨m - 1, by omega, i + 1, by omega, by omega, ?_⟩
        rw [take_nth hil]
        intro x hx
        rcases List.mem_append.1 hx with hx | hx
        · exact hb x hx
        · rw [List.mem_singleton.1 hx]; exact hbl
      | false =>
        obtain ⟨t1, t2⟩ := take_while_at (p := blankB) (by omega) hb fun h => by rw [← ei]; exact hbl
        have ea : afterB s = nth s (i : Int) :: s.drop (i + 1) := by unfold afterB; rw [t2, ed]
        have eb : bodyB s = if nth s (i : Int) = 43 ∨ nth s (i : Int) = 45 then s.drop (i + 1) else nth s (i : Int) :: s.drop (i + 1) := by unfold bodyB; rw [ea]
        have en : negB s = decide (nth s (i : Int) = 45) := by unfold negB; rw [ea]
        have hprev : 0 < i → nth s ((i : Int) - 1) ≠ 45 := by
          intro h e
          have := hb (nth s ((i : Int) - 1)) (by
            have e2 : ((i : Int) - 1).toNat = i - 1 := by omega
            have : nth s ((i : Int) - 1) = (s.take i)[i - 1]'(by simp; omega) := by simp [nth, e2, List.getElem?_eq_getElem (show i - 1 < s.length by omega)]
            rw [this]; exact List.getElem_mem _)
          rw [e] at this
          exact absurd this (by decide)
        have hnx : ((i : Int) + 1 - 1) = i := by omega
        obtain ⟨c, hc⟩ : ∃ c, nth s (i : Int) = c := ⟨_, rfl⟩
        rw [hc] at eb en ed ea
        by_cases c1 : c = 43
        · subst c1
          have ho : HeadOk s (i + 1) (i + 1 + (digsB s).length) := ⟨by rw [eb]; simp, by omega, rfl, by
            rw [en, show (((i + 1 : Nat) : Int) - 1) = i by omega, hc]; simp⟩
          simp (disch := omega) [h0, h4, hil, hc, wrap64]
          refine W_loop (fun (m : Nat) e K => K = H ∧ e 0 = .str s ∧ e 4 = .int .i64 ((i + 1 : Nat) : Int) ∧ ∃ k : Nat, m + k = s.length ∧ i + 1 ≤ k ∧ e 5 = .int .i64 k ∧ ∀ x ∈ (bodyB s).take (k - (i + 1)), digitB x = true) id (s.length - (i + 1)) ?_ ?_
          · exact ⟨rfl, by simp [h0], by simp [h4], i + 1, by omega, Nat.le_refl _, by simp, by simp⟩
          · rintro m e H ⟨rfl, g0, g4, k, hk, hik, g5, hd⟩
            have hbd : (bodyB s).length = s.length - (i + 1) := by rw [← ho.body]; simp
            have fin : (k - (i + 1) < (bodyB s).length → digitB (nth (bodyB s) ((k - (i + 1) : Nat) : Int)) = false) → HeadOk s (i + 1) k := by
              intro h
              obtain ⟨t3, t4⟩ := take_while_at' (p := digitB) (by omega) hd h
              have : (digsB s).length = k - (i + 1) := by unfold digsB; rw [t3]; simp; omega
              have e2 : i + 1 + (digsB s).length = k := by omega
              rw [e2] at ho
              exact ho
            by_cases hkl : k < s.length
            · have eu : nth s (k : Int) = s[k] := by simp [nth, List.getElem?_eq_getElem hkl]
              have ebk : nth (bodyB s) ((k - (i + 1) : Nat) : Int) = nth s (k : Int) := by rw [← ho.body]; exact nth_drop hik
              simp (disch := omega) [g0, g5, hkl]
              refine WC.of (c213 D.d213) ?_
              rintro r H ⟨rfl, rfl⟩
              cases hdg : digitB (nth s (k : Int)) with
              | true =>
                simp (disch := omega) [g0, g4, g5, wrap64]
                refine ⟨m - 1, by omega, k + 1, by omega, by omega, by omega, ?_⟩
                have e4 : k + 1 - (i + 1) = (k - (i + 1)) + 1 := by omega
                rw [e4, take_nth (by omega), ebk]
                intro x hx
                rcases List.mem_append.1 hx with hx | hx
                · exact hd x hx
                · rw [List.mem_singleton.1 hx]; exact hdg
              | false =>
                have := fin fun _ => by rw [ebk]; exact hdg
                simp [g0, g4, g5]
                exact ⟨_, _, ⟨rfl, rfl⟩, this⟩
            · have := fin fun h => by omega
              simp [g0, g4, g5, hkl]
              exact ⟨_, _, ⟨rfl, rfl⟩, this⟩
        · by_cases c2 : c = 45
          · subst c2
            have ho : HeadOk s (i + 1) (i + 1 + (digsB s).length) := ⟨by rw [eb]; simp, by omega, rfl, by
              rw [en, show (((i + 1 : Nat) : Int) - 1) = i by omega, hc]; simp⟩
            simp (disch := omega) [h0, h4, hil, hc, wrap64]
            refine W_loop (fun (m : Nat) e K => K = H ∧ e 0 = .str s ∧ e 4 = .int .i64 ((i + 1 : Nat) : Int) ∧ ∃ k : Nat, m + k = s.length ∧ i + 1 ≤ k ∧ e 5 = .int .i64 k ∧ ∀ x ∈ (bodyB s).take (k - (i + 1)), digitB x = true) id (s.length - (i + 1)) ?_ ?_
            · exact ⟨rfl, by simp [h0], by simp [h4], i + 1, by omega, Nat.le_refl _, by simp, by simp⟩
            · rintro m e H ⟨rfl, g0, g4, k, hk, hik, g5, hd⟩
              have hbd : (bodyB s).length = s.length - (i + 1) := by rw [← ho.body]; simp
              have fin : (k - (i + 1) < (bodyB s).length → digitB (nth (bodyB s) ((k - (i + 1) : Nat) : Int)) = false) → HeadOk s (i + 1) k := by
                intro h
                obtain ⟨t3, t4⟩ := take_while_at' (p := digitB) (by omega) hd h
                have : (digsB s).length = k - (i + 1) := by unfold digsB; rw [t3]; simp; omega
                have e2 : i + 1 + (digsB s).length = k := by omega
                rw [e2] at ho
                exact ho
              by_cases hkl : k < s.length
              · have eu : nth s (k : Int) = s[k] := by simp [nth, List.getElem?_eq_getElem hkl]
                have ebk : nth (bodyB s) ((k - (i + 1) : Nat) : Int) = nth s (k : Int) := by rw [← ho.body]; exact nth_drop hik
                simp (disch := omega) [g0, g5, hkl]
                refine WC.of (c213 D.d213) ?_
                rintro r H ⟨rfl, rfl⟩
                cases hdg : digitB (nth s (k : Int)) with
                | true =>
                  simp (disch := omega) [g0, g4, g5, wrap64]
                  refine ⟨m - 1, by omega, k + 1, by omega, by omega, by omega, ?_⟩
                  have e4 : k + 1 - (i + 1) = (k - (i + 1)) + 1 := by omega
                  rw [e4, take_nth (by omega), ebk]
                  intro x hx
                  rcases List.mem_append.1 hx with hx | hx
                  · exact hd x hx
                  · rw [List.mem_singleton.1 hx]; exact hdg
                | false =>
                  have := fin fun _ => by rw [ebk]; exact hdg
                  simp [g0, g4, g5]
                  exact ⟨_, _, ⟨rfl, rfl⟩, this⟩
              · have := fin fun h => by omega
                simp [g0, g4, g5, hkl]
                exact ⟨_, _, ⟨rfl, rfl⟩, this⟩
          · have k1 : ¬ (c.toNat : Int) = 43 := fun h => c1 (u8k.1.1 h)
            have k2 : ¬ (c.toNat : Int) = 45 := fun h => c2 (u8k.2.1 h)
            have ho : HeadOk s i (i + (digsB s).length) := ⟨by rw [eb, if_neg (by simp [c1, c2])]; exact ed, by omega, rfl, by
              rw [en]; simp [c2]; exact hprev⟩
            simp (disch := omega) [h0, h4, hil, hc, k1, k2, wrap64]
            refine W_loop (fun (m : Nat) e K => K = H ∧ e 0 = .str s ∧ e 4 = .int .i64 ((i : Nat) : Int) ∧ ∃ k : Nat, m + k = s.length ∧ i ≤ k ∧ e 5 = .int .i64 k ∧ ∀ x ∈ (bodyB s).take (k - (i)), digitB x = true) id (s.length - (i)) ?_ ?_
            · exact ⟨rfl, by simp [h0], by simp [h4], i, by omega, Nat.le_refl _, by simp, by simp⟩
            · rintro m e H ⟨rfl, g0, g4, k, hk, hik, g5, hd⟩
              have hbd : (bodyB s).length = s.length - (i) := by rw [← ho.body]; simp
              have fin : (k - (i) < (bodyB s).length → digitB (nth (bodyB s) ((k - (i) : Nat) : Int)) = false) → HeadOk s (i) k := by
                intro h
                obtain ⟨t3, t4⟩ := take_while_at' (p := digitB) (by omega) hd h
                have : (digsB s).length = k - (i) := by unfold digsB; rw [t3]; simp; omega
                have e2 : i + (digsB s).length = k := by omega
                rw [e2] at ho
                exact ho
              by_cases hkl : k < s.length
              · have eu : nth s (k : Int) = s[k] := by simp [nth, List.getElem?_eq_getElem hkl]
                have ebk : nth (bodyB s) ((k - (i) : Nat) : Int) = nth s (k : Int) := by rw [← ho.body]; exact nth_drop hik
                simp (disch := omega) [g0, g5, hkl]
                refine WC.of (c213 D.d213) ?_
                rintro r H ⟨rfl, rfl⟩
                cases hdg : digitB (nth s (k : Int)) with
                | true =>
                  simp (disch := omega) [g0, g4, g5, wrap64]
                  refine ⟨m - 1, by omega, k + 1, by omega, by omega, by omega, ?_⟩
                  have e4 : k + 1 - (i) = (k - (i)) + 1 := by omega
                  rw [e4, take_nth (by omega), ebk]
                  intro x hx
                  rcases List.mem_append.1 hx with hx | hx
                  · exact hd x hx
                  · rw [List.mem_singleton.1 hx]; exact hdg
                | false =>
                  have := fin fun _ => by rw [ebk]; exact hdg
                  simp [g0, g4, g5]
                  exact ⟨_, _, ⟨rfl, rfl⟩, this⟩
              · have := fin fun h => by omega
                simp [g0, g4, g5, hkl]
                exact ⟨_, _, ⟨rfl, rfl⟩, this⟩
    · have hie : i = s.length := by omega
      obtain ⟨t1, t2⟩ := take_while_at (p := blankB) (by omega) hb fun h => absurd h hil
      have ea : afterB s = [] := by unfold afterB; rw [t2]; simp; omega
      have eb : bodyB s = [] := by unfold bodyB; rw [ea]
      have en : negB s = false := by unfold negB; rw [ea]
      have hprev : 0 < i → nth s ((i : Int) - 1) ≠ 45 := by
        intro h e
        have := hb (nth s ((i : Int) - 1)) (by
          have e2 : ((i : Int) - 1).toNat = i - 1 := by omega
          have : nth s ((i : Int) - 1) = (s.take i)[i - 1]'(by simp; omega) := by simp [nth, e2, List.getElem?_eq_getElem (show i - 1 < s.length by omega)]
          rw [this]; exact List.getElem_mem _)
        rw [e] at this
        exact absurd this (by decide)
      have ho : HeadOk s i (i + (digsB s).length) := ⟨by rw [eb]; exact List.drop_eq_nil_of_le (by omega), by omega, rfl, by
        rw [en]; simp; exact hprev⟩
      simp (disch := omega) [h0, h4, hil]
      have e0 : (digsB s).length = 0 := by unfold digsB; rw [eb]; rfl
      rw [e0, Nat.add_zero] at ho
      refine W_loop (fun (m : Nat) e K => K = H ∧ e 0 = .str s ∧ e 4 = .int .i64 i ∧ e 5 = .int .i64 i) id 0 ?_ ?_
      · exact ⟨rfl, by simp [h0], by simp [h4], by simp⟩
      · rintro m e H ⟨rfl, g0, g4, g5⟩
        simp [g0, g4, g5, hil]
        exact ⟨_, _, ⟨rfl, rfl⟩, ho⟩

theorem c243 (D : D243 T) {H : AHeap} {s : List UInt8} (hs : s.length < 2 ^ 62) : Calls T 243 [.str s] H fun r H' => H' = H ∧ r = .bool (looksB s) := by
  refine Calls.fn D.pr D.fn ?_
  simp [ir243]
  refine WC.of (c208 D.d208 hs) ?_
  rintro r H ⟨rfl, i, k, rfl, ho⟩
  have ed := ho.dig
  have hbl : (digsB s).length + (restB s).length = (bodyB s).length := by
    have := congrArg List.length (List.takeWhile_append_dropWhile (p := digitB) (l := bodyB s))
    rw [List.length_append] at this
    exact this
  have hbd : (bodyB s).length = s.length - i := by rw [← ho.body]; simp
  have hle := ho.le
  have er : s.drop k = restB s := by
    have h1 : (bodyB s).drop (digsB s).length = restB s := by
      have h2 : bodyB s = digsB s ++ restB s := (List.takeWhile_append_dropWhile (p := digitB) (l := bodyB s)).symm
      conv => lhs; rw [h2]
      simp
    rw [← h1, ← ho.body, List.drop_drop, ed]
  by_cases hd : digsB s = []
  · have e1 : looksB s = false := by unfold looksB; simp [hd]
    have e2 : k = i := by rw [ed, hd]; simp
    subst e2
    simp [e1]
  · have hlen : (digsB s).length ≠ 0 := fun h => hd (List.length_eq_zero_iff.1 h)
    have e1 : looksB s = (restB s).all blankB := by unfold looksB; simp [hd]
    rw [e1, ← er]
    simp [show ¬ (i : Int) = k by omega]
    refine W_loop (fun (m : Nat) e K => K = H ∧ e 0 = .str s ∧ ∃ j : Nat, m + j = s.length ∧ k ≤ j ∧ e 5 = .int .i64 j ∧ ∀ x ∈ (s.take j).drop k, blankB x = true) id (s.length - k) ?_ ?_
    · exact ⟨rfl, by simp, k, by omega, Nat.le_refl _, by simp, by simp⟩
    · rintro m e H ⟨rfl, h0, j, hj, hkj, h5, hb⟩
      simp [h0, h5]
      refine WB.bool ?_ ?_
      · intro hlt
        simp at hlt
        simp (disch := omega) [h0, h5, hlt]
        refine WC.of (c212 D.d212) ?_
        rintro r H ⟨rfl, rfl⟩
        cases hbl : blankB (nth s (j : Int)) with
        | true =>
          simp (disch := omega) [h0, h5, wrap64]
          refine ⟨m - 1, by omega, j + 1, by omega, by omega, by omega, ?_⟩
          rw [take_nth hlt, List.drop_append_of_le_length (by simp; omega)]
          intro x hx
          rcases List.mem_append.1 hx with hx | hx
          · exact hb x hx
          · rw [List.mem_singleton.1 hx]; exact hbl
        | false =>
          have ej : nth s (j : Int) = s[j] := by simp [nth, List.getElem?_eq_getElem hlt]
          have : (s.drop k).all blankB = false := by
            rw [List.all_eq_false]
            refine ⟨nth s (j : Int), ?_, by simp [hbl]⟩
            rw [ej]
            have : s[j] = (s.drop k)[j - k]'(by simp; omega) := by rw [List.getElem_drop]; congr 1; omega
            rw [this]; exact List.getElem_mem _
          simp [this]
      · intro hlt
        simp at hlt
        rw [List.take_of_length_le (by omega)] at hb
        have : (s.drop k).all blankB = true := by rw [List.all_eq_true]; exact hb
        simp [this]
end Go.Am
