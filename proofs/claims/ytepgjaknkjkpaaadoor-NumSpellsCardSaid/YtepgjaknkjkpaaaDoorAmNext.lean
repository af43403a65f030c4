/- Contracts: texts one further. -/
import Derived.Test.YtepgjaknkjkpaaaDoorAmScal2
set_option linter.unusedVariables false
set_option linter.unusedSimpArgs false
namespace Go.Am
variable {T : Tab}

def smallB (c : UInt8) : Bool := 97 ≤ c && c ≤ 122
def capB (c : UInt8) : Bool := 65 ≤ c && c ≤ 90
def letB (c : UInt8) : Bool := smallB c || capB c

theorem small_iff (c : UInt8) : smallB c = (decide ((97 : Int) ≤ c.toNat) && decide ((c.toNat : Int) ≤ 122)) := by
  unfold smallB
  rw [show decide ((97 : UInt8) ≤ c) = decide ((97 : Int) ≤ c.toNat) by rw [decide_eq_decide, UInt8.le_iff_toNat_le]; simp; omega,
    show decide (c ≤ (122 : UInt8)) = decide ((c.toNat : Int) ≤ 122) by rw [decide_eq_decide, UInt8.le_iff_toNat_le]; simp; omega]
theorem cap_iff (c : UInt8) : capB c = (decide ((65 : Int) ≤ c.toNat) && decide ((c.toNat : Int) ≤ 90)) := by
  unfold capB
  rw [show decide ((65 : UInt8) ≤ c) = decide ((65 : Int) ≤ c.toNat) by rw [decide_eq_decide, UInt8.le_iff_toNat_le]; simp; omega,
    show decide (c ≤ (90 : UInt8)) = decide ((c.toNat : Int) ≤ 90) by rw [decide_eq_decide, UInt8.le_iff_toNat_le]; simp; omega]

theorem c292 (D : D292 T) {H : AHeap} {c : UInt8} : Calls T 292 [.int .u8 c.toNat] H fun r H' => H' = H ∧ r = .bool (smallB c) := by
  refine Calls.fn D.pr D.fn ?_
  rw [small_iff]
  generalize (c.toNat : Int) = n
  by_cases h1 : 97 ≤ n <;> simp [ir292, h1]
theorem c293 (D : D293 T) {H : AHeap} {c : UInt8} : Calls T 293 [.int .u8 c.toNat] H fun r H' => H' = H ∧ r = .bool (capB c) := by
  refine Calls.fn D.pr D.fn ?_
  rw [cap_iff]
  generalize (c.toNat : Int) = n
  by_cases h1 : 65 ≤ n <;> simp [ir293, h1]
theorem c295 (D : D295 T) {H : AHeap} {c : UInt8} : Calls T 295 [.int .u8 c.toNat] H fun r H' => H' = H ∧ r = .bool (letB c) := by
  refine Calls.fn D.pr D.fn ?_
  unfold letB
  rw [small_iff, cap_iff]
  generalize (c.toNat : Int) = n
  by_cases h1 : 97 ≤ n
  · by_cases h2 : n ≤ 122
    · simp [ir295, h1, h2]
    · by_cases h3 : 65 ≤ n <;> simp [ir295, h1, h2, h3]
  · by_cases h3 : 65 ≤ n <;> simp [ir295, h1, h3]

/-- Whether a text is letters and then digits. -/
def countB (s : List UInt8) : Bool := !s.isEmpty && ((s.dropWhile letB).dropWhile digitB).isEmpty

theorem c291 (D : D291 T) {H : AHeap} {s : List UInt8} (hs : s.length < 2 ^ 62) : Calls T 291 [.str s] H fun r H' => H' = H ∧ r = .bool (countB s) := by
  refine Calls.fn D.pr D.fn ?_
  simp [ir291]
  refine W_loop (fun (m : Nat) e K => K = H ∧ e 0 = .str s ∧ ∃ k : Nat, m + k = s.length ∧ e 3 = .int .i64 k ∧ s.dropWhile letB = (s.drop k).dropWhile letB) id s.length ?_ ?_
  · exact ⟨rfl, by simp, 0, by simp, by simp, by simp⟩
  · rintro m e H ⟨rfl, h0, k, hk, h3, hd⟩
    have second : s.dropWhile letB = s.drop k → ∀ (q : Nat), k ≤ q → q ≤ s.length → (s.drop k).dropWhile digitB = s.drop q → countB s = (!s.isEmpty && decide (q = s.length)) := by
      intro h1 q hkq hq h2
      unfold countB
      rw [h1, h2]
      congr 1
      rw [Bool.eq_iff_iff]
      simp
      omega
    by_cases hkl : k < s.length
    · simp (disch := omega) [h0, h3, hkl]
      refine WC.of (c295 D.d295) ?_
      rintro r H ⟨rfl, rfl⟩
      cases hb : letB (nth s (k : Int)) with
      | true =>
        simp (disch := omega) [h0, h3, wrap64]
        refine ⟨m - 1, by omega, k + 1, by omega, by omega, ?_⟩
        rw [hd, drop_nthG hkl, List.dropWhile_cons, if_pos hb]
      | false =>
        have hd2 : s.dropWhile letB = s.drop k := by
          rw [hd]
          conv => lhs; rw [drop_nthG hkl, List.dropWhile_cons, if_neg (by simp [hb])]
          exact (drop_nthG hkl).symm
        simp [h0, h3]
        refine W_loop (fun (m : Nat) e K => K = H ∧ e 0 = .str s ∧ ∃ q : Nat, m + q = s.length ∧ k ≤ q ∧ e 3 = .int .i64 q ∧ (s.drop k).dropWhile digitB = (s.drop q).dropWhile digitB) id (s.length - k) ?_ ?_
        · exact ⟨rfl, by simp [h0], k, by omega, Nat.le_refl _, by simp [h3], rfl⟩
        · rintro m e H ⟨rfl, g0, q, hq, hkq, g3, hr⟩
          by_cases hql : q < s.length
          · simp (disch := omega) [g0, g3, hql]
            refine WC.of (c213 D.d213) ?_
            rintro r H ⟨rfl, rfl⟩
            cases hb2 : digitB (nth s (q : Int)) with
            | true =>
              simp (disch := omega) [g0, g3, wrap64]
              refine ⟨m - 1, by omega, q + 1, by omega, by omega, by omega, ?_⟩
              rw [hr, drop_nthG hql, List.dropWhile_cons, if_pos hb2]
            | false =>
              have hr2 : (s.drop k).dropWhile digitB = s.drop q := by
                rw [hr]
                conv => lhs; rw [drop_nthG hql, List.dropWhile_cons, if_neg (by simp [hb2])]
                exact (drop_nthG hql).symm
              rw [second hd2 q hkq (by omega) hr2]
              have hne : s ≠ [] := by rintro rfl; simp at hql
              simp [g0, g3, hne, show ¬ ((q : Int) = s.length) by omega, show ¬ q = s.length by omega]
          · have hr2 : (s.drop k).dropWhile digitB = s.drop q := by rw [hr, List.drop_eq_nil_of_le (by omega)]; rfl
            rw [second hd2 q hkq (by omega) hr2]
            obtain rfl : q = s.length := by omega
            by_cases hne : s = [] <;> simp [g0, g3, hne]
    · have hd2 : s.dropWhile letB = s.drop k := by rw [hd, List.drop_eq_nil_of_le (by omega)]; rfl
      simp [h0, h3, hkl]
      refine W_loop (fun (m : Nat) e K => K = H ∧ e 0 = .str s ∧ ∃ q : Nat, m + q = s.length ∧ k ≤ q ∧ e 3 = .int .i64 q ∧ (s.drop k).dropWhile digitB = (s.drop q).dropWhile digitB) id (s.length - k) ?_ ?_
      · exact ⟨rfl, by simp [h0], k, by omega, Nat.le_refl _, by simp [h3], rfl⟩
      · rintro m e H ⟨rfl, g0, q, hq, hkq, g3, hr⟩
        by_cases hql : q < s.length
        · simp (disch := omega) [g0, g3, hql]
          refine WC.of (c213 D.d213) ?_
          rintro r H ⟨rfl, rfl⟩
          cases hb2 : digitB (nth s (q : Int)) with
          | true =>
            simp (disch := omega) [g0, g3, wrap64]
            refine ⟨m - 1, by omega, q + 1, by omega, by omega, by omega, ?_⟩
            rw [hr, drop_nthG hql, List.dropWhile_cons, if_pos hb2]
          | false =>
            have hr2 : (s.drop k).dropWhile digitB = s.drop q := by
              rw [hr]
              conv => lhs; rw [drop_nthG hql, List.dropWhile_cons, if_neg (by simp [hb2])]
              exact (drop_nthG hql).symm
            rw [second hd2 q hkq (by omega) hr2]
            have hne : s ≠ [] := by rintro rfl; simp at hql
            simp [g0, g3, hne, show ¬ ((q : Int) = s.length) by omega, show ¬ q = s.length by omega]
        · have hr2 : (s.drop k).dropWhile digitB = s.drop q := by rw [hr, List.drop_eq_nil_of_le (by omega)]; rfl
          rw [second hd2 q hkq (by omega) hr2]
          obtain rfl : q = s.length := by omega
          by_cases hne : s = [] <;> simp [g0, g3, hne]
theorem c286 (D : D286 T) {H : AHeap} {s : List UInt8} (hs : s.length < 2 ^ 62) : Calls T 286 [.str s] H fun r H' => H' = H ∧ r = .bool (countB s) := by
  refine Calls.fn D.pr D.fn ?_
  simp [ir286]
  refine W_loop (fun (m : Nat) e K => K = H ∧ e 0 = .str s ∧ ∃ k : Nat, m + k = s.length ∧ e 3 = .int .i64 k ∧ s.dropWhile letB = (s.drop k).dropWhile letB) id s.length ?_ ?_
  · exact ⟨rfl, by simp, 0, by simp, by simp, by simp⟩
  · rintro m e H ⟨rfl, h0, k, hk, h3, hd⟩
    have second : s.dropWhile letB = s.drop k → ∀ (q : Nat), k ≤ q → q ≤ s.length → (s.drop k).dropWhile digitB = s.drop q → countB s = (!s.isEmpty && decide (q = s.length)) := by
      intro h1 q hkq hq h2
      unfold countB
      rw [h1, h2]
      congr 1
      rw [Bool.eq_iff_iff]
      simp
      omega
    by_cases hkl : k < s.length
    · simp (disch := omega) [h0, h3, hkl]
      refine WC.of (c292 D.d292) ?_
      rintro r H ⟨rfl, rfl⟩
      have hor : letB (nth s (k : Int)) = (smallB (nth s (k : Int)) || capB (nth s (k : Int))) := rfl
      cases hsm : smallB (nth s (k : Int)) with
      | true =>
        rw [hsm] at hor
        simp (disch := omega) [h0, h3, wrap64]
        refine ⟨m - 1, by omega, k + 1, by omega, by omega, ?_⟩
        rw [hd, drop_nthG hkl, List.dropWhile_cons, if_pos (by simp [hor])]
      | false =>
      rw [hsm] at hor
      simp (disch := omega) [h0, h3, hkl]
      refine WC.of (c293 D.d293) ?_
      rintro r H ⟨rfl, rfl⟩
      have hor : letB (nth s (k : Int)) = capB (nth s (k : Int)) := by simpa using hor
      rw [← hor]
      cases hb : letB (nth s (k : Int)) with
      | true =>
        simp (disch := omega) [h0, h3, wrap64]
        refine ⟨m - 1, by omega, k + 1, by omega, by omega, ?_⟩
        rw [hd, drop_nthG hkl, List.dropWhile_cons, if_pos hb]
      | false =>
        have hd2 : s.dropWhile letB = s.drop k := by
          rw [hd]
          conv => lhs; rw [drop_nthG hkl, List.dropWhile_cons, if_neg (by simp [hb])]
          exact (drop_nthG hkl).symm
        simp [h0, h3]
        refine W_loop (fun (m : Nat) e K => K = H ∧ e 0 = .str s ∧ ∃ q : Nat, m + q = s.length ∧ k ≤ q ∧ e 3 = .int .i64 q ∧ (s.drop k).dropWhile digitB = (s.drop q).dropWhile digitB) id (s.length - k) ?_ ?_
        · exact ⟨rfl, by simp [h0], k, by omega, Nat.le_refl _, by simp [h3], rfl⟩
        · rintro m e H ⟨rfl, g0, q, hq, hkq, g3, hr⟩
          by_cases hql : q < s.length
          · simp (disch := omega) [g0, g3, hql]
            refine WC.of (c215 D.d215) ?_
            rintro r H ⟨rfl, rfl⟩
            cases hb2 : digitB (nth s (q : Int)) with
            | true =>
              simp (disch := omega) [g0, g3, wrap64]
              refine ⟨m - 1, by omega, q + 1, by omega, by omega, by omega, ?_⟩
              rw [hr, drop_nthG hql, List.dropWhile_cons, if_pos hb2]
            | false =>
              have hr2 : (s.drop k).dropWhile digitB = s.drop q := by
                rw [hr]
                conv => lhs; rw [drop_nthG hql, List.dropWhile_cons, if_neg (by simp [hb2])]
                exact (drop_nthG hql).symm
              rw [second hd2 q hkq (by omega) hr2]
              have hne : s ≠ [] := by rintro rfl; simp at hql
              simp [g0, g3, hne, show ¬ ((q : Int) = s.length) by omega, show ¬ q = s.length by omega]
          · have hr2 : (s.drop k).dropWhile digitB = s.drop q := by rw [hr, List.drop_eq_nil_of_le (by omega)]; rfl
            rw [second hd2 q hkq (by omega) hr2]
            obtain rfl : q = s.length := by omega
            by_cases hne : s = [] <;> simp [g0, g3, hne]
    · have hd2 : s.dropWhile letB = s.drop k := by rw [hd, List.drop_eq_nil_of_le (by omega)]; rfl
      simp [h0, h3, hkl]
      refine W_loop (fun (m : Nat) e K => K = H ∧ e 0 = .str s ∧ ∃ q : Nat, m + q = s.length ∧ k ≤ q ∧ e 3 = .int .i64 q ∧ (s.drop k).dropWhile digitB = (s.drop q).dropWhile digitB) id (s.length - k) ?_ ?_
      · exact ⟨rfl, by simp [h0], k, by omega, Nat.le_refl _, by simp [h3], rfl⟩
      · rintro m e H ⟨rfl, g0, q, hq, hkq, g3, hr⟩
        by_cases hql : q < s.length
        · simp (disch := omega) [g0, g3, hql]
          refine WC.of (c215 D.d215) ?_
          rintro r H ⟨rfl, rfl⟩
          cases hb2 : digitB (nth s (q : Int)) with
          | true =>
            simp (disch := omega) [g0, g3, wrap64]
            refine ⟨m - 1, by omega, q + 1, by omega, by omega, by omega, ?_⟩
            rw [hr, drop_nthG hql, List.dropWhile_cons, if_pos hb2]
          | false =>
            have hr2 : (s.drop k).dropWhile digitB = s.drop q := by
              rw [hr]
              conv => lhs; rw [drop_nthG hql, List.dropWhile_cons, if_neg (by simp [hb2])]
              exact (drop_nthG hql).symm
            rw [second hd2 q hkq (by omega) hr2]
            have hne : s ≠ [] := by rintro rfl; simp at hql
            simp [g0, g3, hne, show ¬ ((q : Int) = s.length) by omega, show ¬ q = s.length by omega]
        · have hr2 : (s.drop k).dropWhile digitB = s.drop q := by rw [hr, List.drop_eq_nil_of_le (by omega)]; rfl
          rw [second hd2 q hkq (by omega) hr2]
          obtain rfl : q = s.length := by omega
          by_cases hne : s = [] <;> simp [g0, g3, hne]

/-- The byte that a last byte becomes, where it goes over. -/
def wrapB (c : UInt8) : Option UInt8 := if c = 122 then some 97 else if c = 90 then some 65 else if c = 57 then some 48 else none
/-- One further, from the end: what is still ahead, the last first; what is behind. -/
def fur : List UInt8 → List UInt8 → List UInt8
  | [], t => t
  | c :: r, t => match wrapB c with
    | none => r.reverse ++ (c + 1) :: t
    | some f => if r = [] then (if c = 57 then 49 else f) :: f :: t else fur r (f :: t)
def furR (s : List UInt8) : List UInt8 := fur s.reverse []

theorem fur_app : ∀ (r t u : List UInt8), fur r (t ++ u) = fur r t ++ u
  | [], t, u => rfl
  | c :: r, t, u => by
    unfold fur
    cases wrapB c with
    | none => simp
    | some f =>
      simp only
      split
      · simp
      · exact fur_app r (f :: t) u
theorem fur_len : ∀ (r t : List UInt8), (fur r t).length ≤ r.length + t.length + 1
  | [], t => by simp [fur]
  | c :: r, t => by
    unfold fur
    cases wrapB c with
    | none => simp; omega
    | some f =>
      simp only
      split
      · simp; omega
      · have := fur_len r (f :: t)
        simp at this ⊢; omega
theorem furR_len (s : List UInt8) : (furR s).length ≤ s.length + 1 := by
  have := fur_len s.reverse []
  simp at this; exact this

theorem mem_while {p : UInt8 → Bool} : ∀ {s : List UInt8} {c : UInt8}, c ∈ s.takeWhile p → p c = true
  | [], c, h => by simp at h
  | x :: s, c, h => by
    rw [List.takeWhile_cons] at h
    split at h
    · rename_i hx
      rcases List.mem_cons.1 h with rfl | h
      · exact hx
      · exact mem_while h
    · cases h
theorem count_mem {s : List UInt8} (h : countB s = true) {c : UInt8} (hc : c ∈ s) : letB c = true ∨ digitB c = true := by
  unfold countB at h
  simp only [Bool.and_eq_true, List.isEmpty_iff] at h
  have h2 := h.2
  have e1 : s.takeWhile letB ++ s.dropWhile letB = s := List.takeWhile_append_dropWhile
  have e2 : (s.dropWhile letB).takeWhile digitB ++ (s.dropWhile letB).dropWhile digitB = s.dropWhile letB := List.takeWhile_append_dropWhile
  rw [h2, List.append_nil] at e2
  rw [← e1] at hc
  rcases List.mem_append.1 hc with hc | hc
  · exact .inl (mem_while hc)
  · rw [← e2] at hc; exact .inr (mem_while hc)

theorem count_small {s : List UInt8} (h : countB s = true) {c : UInt8} (hc : c ∈ s) : c.toNat ≤ 122 := by
  rcases count_mem h hc with h | h
  · unfold letB at h
    rw [small_iff, cap_iff] at h
    simp at h; omega
  · have := digit_bounds h
    omega

/-- What is ahead of letters and digits is so, too. -/
theorem count_take {s : List UInt8} (h : countB s = true) {k : Nat} (hk : 0 < k) : countB (s.take k) = true := by
  have all : ∀ (s : List UInt8) (k : Nat), s.dropWhile digitB = [] → (s.take k).dropWhile digitB = [] := by
    intro s
    induction s with
    | nil => intro k h; simp
    | cons c s ih =>
      intro k h
      cases k with
      | zero => simp
      | succ k =>
        rw [List.dropWhile_cons] at h
        rw [List.take_succ_cons, List.dropWhile_cons]
        split
        · rename_i hd; rw [if_pos hd] at h; exact ih k h
        · rename_i hd; rw [if_neg hd] at h; cases h
  have two : ∀ (s : List UInt8) (k : Nat), (s.dropWhile letB).dropWhile digitB = [] → ((s.take k).dropWhile letB).dropWhile digitB = [] := by
    intro s
    induction s with
    | nil => intro k h; simp
    | cons c s ih =>
      intro k h
      cases k with
      | zero => simp
      | succ k =>
        rw [List.dropWhile_cons] at h
        rw [List.take_succ_cons, List.dropWhile_cons]
        split
        · rename_i hd; rw [if_pos hd] at h; exact ih k h
        · rename_i hd; rw [if_neg hd] at h
          rw [← List.take_succ_cons]; exact all _ _ h
  unfold countB at h ⊢
  simp only [Bool.and_eq_true, List.isEmpty_iff, Bool.not_eq_true', List.isEmpty_eq_false_iff] at h ⊢
  refine ⟨?_, two s k h.2⟩
  cases s with
  | nil => exact absurd rfl h.1
  | cons c s => cases k with
    | zero => omega
    | succ k => simp

theorem bytes_back : ∀ l : List UInt8, bytesOf (l.map encU) = some l
  | [] => rfl
  | c :: l => by
    show (match bytesOf (l.map encU) with | some m => some (UInt8.ofNat (c.toNat : Int).toNat :: m) | none => none) = _
    rw [bytes_back l]
    simp
theorem Sl.b2s {H : AHeap} {v : AV} {l : List UInt8} (h : Sl encU 1 H v l) : rsem .b2s [v] H = some (.str l) := by
  have h2 := h.cells.2
  rw [Cell.flat] at h2
  obtain ⟨_, p, sv, cap, rfl, _⟩ := h
  simp only [rsem, h2, bytes_back]
theorem made_s2b {H : AHeap} {s : List UInt8} (hs : s.length ≤ 2 ^ 46) : ∃ v, wsem0 .s2b [.str s] H = some (v, H.new (s.map encU)) ∧ Made encU 1 H.next (H.new (s.map encU)) v s := by
  refine ⟨.slc (some (H.next, 0)) 1 s.length none, ?_, some H.next, ⟨⟨Cell.len _, some (H.next, 0), 1, none, rfl, by simp, rfl, H.next, _, (Box.new (H := H) (cs := s.map encU)).row, by simp, ?_⟩, H.next, _, (Box.new (H := H) (cs := s.map encU)).row, rfl, (Box.new (H := H) (cs := s.map encU)).fam⟩, by simp⟩
  · show wsem _ .s2b [.str s] H = _
    simp only [wsem]
    rw [if_pos hs]
  · rw [Cell.flat, List.drop_zero, List.take_of_length_le (by simp)]

def firstB (c : UInt8) : UInt8 := if smallB c then 97 else if capB c then 65 else 49
theorem first_wrap {c f : UInt8} (h : wrapB c = some f) : firstB c = if c = 57 then 49 else f := by
  unfold wrapB at h
  split at h
  · rename_i e; subst e; simp at h; subst h; decide
  · split at h
    · rename_i e; subst e; simp at h; subst h; decide
    · split at h
      · rename_i e; subst e; simp at h; subst h; decide
      · cases h

theorem c287 (D : D287 T) {H : AHeap} (hw : WF H) {s : List UInt8} (hs : s.length ≤ 4096) (hc : countB s = true) : Calls T 287 [.str s] H fun r H' => Fr H H' ∧ r = .str (furR s) := by
  refine Calls.fn D.pr D.fn ?_
  obtain ⟨v, q1, q2⟩ := made_s2b (H := H) (s := s) (by omega)
  have f0 : Fr H (H.new (s.map encU)) := hw.fr_new
  obtain ⟨K0, hK0⟩ : ∃ K0, H.new (s.map encU) = K0 := ⟨_, rfl⟩
  rw [hK0] at q1 q2 f0
  have hne : s ≠ [] := by rintro rfl; simp [countB] at hc
  have hpos : 0 < s.length := List.length_pos_iff.2 hne
  simp (disch := omega) [ir287, q1, q2.sl.len, wrap64]
  refine W_loop (fun (k : Nat) e K => Fr H K ∧ e 0 = .str s ∧ e 3 = v ∧ k ≤ s.length ∧ e 4 = .int .i64 ((k : Int) - 1) ∧ ∃ t, (s.take k ++ t).length = s.length ∧ Made encU 1 H.next K v (s.take k ++ t) ∧
    (0 < k → furR s = fur (s.take k).reverse t) ∧ (k = 0 → furR s = firstB (nth s 0) :: t)) id s.length ?_ ?_
  · refine ⟨f0, by simp, by simp, Nat.le_refl _, by simp, [], by simp, by simpa using q2, fun _ => by simp [furR], fun h => by omega⟩
  · rintro k e K ⟨fr, h0, h3, hk, h4, t, hlen, mo, fp, fz⟩
    by_cases hk0 : k = 0
    · subst hk0
      have fz := fz rfl
      have hb := mo.sl.b2s
      rw [List.take_zero, List.nil_append] at hb hlen
      rw [fz]
      simp (disch := omega) [h0, h4, hpos]
      refine WC.of (c292 D.d292) ?_
      rintro r K ⟨rfl, rfl⟩
      unfold firstB
      cases hsm : smallB (nth s 0) with
      | true =>
        simp [h3, hb, show ¬ (4611686018427387904 : Int) < 1 + t.length by omega, show ¬ (4611686018427387904 : Int) < t.length + 1 by omega]
        exact fr
      | false =>
        simp (disch := omega) [h0, hpos]
        refine WC.of (c293 D.d293) ?_
        rintro r K ⟨rfl, rfl⟩
        cases hcp : capB (nth s 0) with
        | true =>
          simp [h3, hb, show ¬ (4611686018427387904 : Int) < 1 + t.length by omega, show ¬ (4611686018427387904 : Int) < t.length + 1 by omega]
          exact fr
        | false =>
          simp [h3, hb, show ¬ (4611686018427387904 : Int) < 1 + t.length by omega, show ¬ (4611686018427387904 : Int) < t.length + 1 by omega]
          exact fr
    · obtain ⟨j, rfl⟩ : ∃ j, k = j + 1 := ⟨k - 1, by omega⟩
      have fp := fp (by omega)
      have hi : (((j + 1 : Nat) : Int) - 1) = (j : Int) := by omega
      rw [hi] at h4
      have hjl : j < s.length := by omega
      have et : s.take (j + 1) = s.take j ++ [nth s (j : Int)] := take_nth hjl
      have hmem : nth s (j : Int) ∈ s := nth_mem hjl
      have hsm := count_small hc hmem
      have hn : nth (s.take (j + 1) ++ t) (j : Int) = nth s (j : Int) := by
        simp only [nth, List.getD, Int.toNat_natCast]
        rw [List.getElem?_append_left (by simp; omega), List.getElem?_take, if_pos (by omega)]
      have hset : ∀ x : UInt8, (s.take (j + 1) ++ t).set j x = s.take j ++ x :: t := by
        intro x
        rw [et, List.append_assoc, List.set_append_right _ _ (by simp; omega)]
        simp [show j - min j s.length = 0 by omega]
      have hj1 : (j : Int) < ((s.take (j + 1) ++ t).length : Nat) := by omega
      have lv := mo.sl.ld (i := (j : Int)) (by omega) hj1
      rw [hn] at lv
      rw [et, List.reverse_append, List.reverse_singleton, List.singleton_append] at fp
      have st := fun x : UInt8 => mo.st fr.wf (i := (j : Int)) (by omega) hj1 x
      simp only [Int.toNat_natCast, hset] at st
      have hlen2 : ∀ x : UInt8, (s.take j ++ x :: t).length = s.length := by intro x; rw [← hset x, List.length_set]; exact hlen
      obtain ⟨c, hcc⟩ : ∃ c, nth s (j : Int) = c := ⟨_, rfl⟩
      have hn0 : j = 0 → nth s 0 = c := by intro h; subst h; exact hcc
      rw [hcc] at lv fp hsm
      have step : ∀ {x : UInt8} {K' : AHeap}, wrapB c = some x → WF K' → Keeps (H.next ≤ ·) K K' → Made encU 1 H.next K' v (s.take j ++ x :: t) →
          Fr H K' ∧ ∃ t', (s.take j ++ t').length = s.length ∧ Made encU 1 H.next K' v (s.take j ++ t') ∧ (0 < j → furR s = fur (s.take j).reverse t') ∧ (j = 0 → furR s = firstB (nth s 0) :: t') := by
        intro x K' hx w k m
        refine ⟨fr.step w k (fun g h => h), x :: t, hlen2 x, m, ?_, ?_⟩
        · intro hj
          rw [fp, fur, hx]
          simp only
          rw [if_neg]
          intro h
          have := congrArg List.length h
          rw [List.length_reverse, List.length_take, List.length_nil] at this
          omega
        · intro hj
          rw [hn0 hj, first_wrap hx, fp, fur, hx]
          subst hj
          simp
      simp (disch := omega) [h3, h4, mo.sl.ia, hj1, lv]
      by_cases c1 : c = 122
      · subst c1
        obtain ⟨K', s1, s2, s3, s4, s5⟩ := st 97
        obtain ⟨a1, t', a2, a3, a4, a5⟩ := step (x := 97) rfl s2 s3 s4
        have s1 : wsem0 (.st 1) [elt v 1 (j : Int), .int .u8 97] K = some (.undef, K') := s1
        simp (disch := omega) [h3, h4, mo.sl.ia, hj1, s1, wrap64]
        exact ⟨j, by omega, a1, h0, by omega, rfl, t', by simpa using a2, a3, a4, a5⟩
      · have k1 : ¬ (c.toNat : Int) = 122 := fun h => c1 ((u8_eqk c 122 (by omega)).1 h)
        by_cases c2 : c = 90
        · subst c2
          obtain ⟨K', s1, s2, s3, s4, s5⟩ := st 65
          obtain ⟨a1, t', a2, a3, a4, a5⟩ := step (x := 65) rfl s2 s3 s4
          have s1 : wsem0 (.st 1) [elt v 1 (j : Int), .int .u8 65] K = some (.undef, K') := s1
          simp (disch := omega) [h3, h4, mo.sl.ia, hj1, s1, wrap64]
          exact ⟨j, by omega, a1, h0, by omega, rfl, t', by simpa using a2, a3, a4, a5⟩
        · have k2 : ¬ (c.toNat : Int) = 90 := fun h => c2 ((u8_eqk c 90 (by omega)).1 h)
          by_cases c3 : c = 57
          · subst c3
            obtain ⟨K', s1, s2, s3, s4, s5⟩ := st 48
            obtain ⟨a1, t', a2, a3, a4, a5⟩ := step (x := 48) rfl s2 s3 s4
            have s1 : wsem0 (.st 1) [elt v 1 (j : Int), .int .u8 48] K = some (.undef, K') := s1
            simp (disch := omega) [h3, h4, mo.sl.ia, hj1, s1, wrap64]
            exact ⟨j, by omega, a1, h0, by omega, rfl, t', by simpa using a2, a3, a4, a5⟩
          · have k3 : ¬ (c.toNat : Int) = 57 := fun h => c3 ((u8_eqk c 57 (by omega)).1 h)
            obtain ⟨K', s1, s2, s3, s4, s5⟩ := st (c + 1)
            have hx : wrapB c = none := by unfold wrapB; rw [if_neg c1, if_neg c2, if_neg c3]
            have ec : ((c + 1).toNat : Int) = (c.toNat : Int) + 1 := by
              rw [UInt8.toNat_add]; simp; omega
            have s1 : wsem0 (.st 1) [elt v 1 (j : Int), .int .u8 ((c + 1).toNat : Int)] K = some (.undef, K') := s1
            rw [ec] at s1
            have hb := s4.sl.b2s
            have e : furR s = s.take j ++ (c + 1) :: t := by rw [fp, fur, hx]; simp
            rw [e]
            simp (disch := omega) [k1, k2, k3, h3, h4, mo.sl.ia, hj1, lv, s1, hb, wrap8]
            exact fr.step s2 s3 (fun g h => h)

theorem numD_rng (l : List UInt8) (h : ∀ c ∈ l, digitB c = true) : 0 ≤ numD l ∧ numD l ≤ 9007199254740992 := by
  have : ∀ (l : List UInt8) (n : Int), 0 ≤ n → n ≤ 9007199254740992 → (∀ c ∈ l, digitB c = true) → 0 ≤ l.foldl (fun (n : Int) (c : UInt8) => min (10 * n + c.toNat - 48) 9007199254740992) n ∧ l.foldl (fun (n : Int) (c : UInt8) => min (10 * n + c.toNat - 48) 9007199254740992) n ≤ 9007199254740992 := by
    intro l
    induction l with
    | nil => intro n h0 h1 _; exact ⟨h0, h1⟩
    | cons c l ih =>
      intro n h0 h1 h
      have := digit_bounds (h c (by simp))
      exact ih (min (10 * n + c.toNat - 48) 9007199254740992) (by omega) (by omega) fun d hd => h d (by simp [hd])
  exact this l 0 (by omega) (by omega) h
theorem ofB_in (s : List UInt8) : inN (ofB s) := by
  have := numD_rng (digsB s) digs_digit
  unfold ofB inN
  split <;> omega

theorem enc_ascii : ∀ d : Nat, d < 128 → (Utf8.encode (d : Int)).data.toList = [UInt8.ofNat d] := by decide +kernel

theorem enc_int {x : Int} (h0 : 0 ≤ x) (h1 : x < 128) : (Utf8.encode x).data.toList = [UInt8.ofNat x.toNat] := by
  obtain ⟨m, rfl⟩ : ∃ m : Nat, x = m := ⟨x.toNat, by omega⟩
  rw [Int.toNat_natCast]
  exact enc_ascii m (by omega)
theorem list_size {b : ByteArray} {x : UInt8} (h : b.data.toList = [x]) : b.size = 1 := by
  have := congrArg List.length h
  simpa using this
theorem u8_succ (c : UInt8) : UInt8.ofNat ((c.toNat : Int) + 1).toNat = c + 1 := by
  rw [show ((c.toNat : Int) + 1).toNat = c.toNat + 1 by omega, UInt8.ofNat_add, UInt8.ofNat_toNat]; rfl
theorem enc_succ {c : UInt8} (h : c.toNat ≤ 122) : (Utf8.encode ((c.toNat : Int) + 1)).data.toList = [c + 1] := by
  rw [← u8_succ]
  exact enc_int (by omega) (by omega)

/-- One further, of any text. -/
def stepV (s : List UInt8) : Int := min (ofB s + 1) 9007199254740992
def furA (s : List UInt8) : List UInt8 := if countB s then furR s else Lib.itoa (stepV s)
theorem stepV_in (s : List UInt8) : inN (stepV s) := by
  have := ofB_in s
  unfold stepV
  unfold inN at *
  omega
theorem itoa_len {n : Int} (h : inN n) : (Lib.itoa n).length ≤ 17 := by
  unfold inN at h
  unfold Lib.itoa
  split
  · have := decDigits_len 15 n.natAbs (by omega)
    simp; omega
  · have := decDigits_len 15 n.toNat (by omega)
    omega
theorem furA_len (s : List UInt8) : (furA s).length ≤ s.length + 17 := by
  unfold furA
  split
  · have := furR_len s; omega
  · have := itoa_len (stepV_in s); omega

theorem c285 (D : D285 T) : ∀ (n : Nat) {H : AHeap} {s : List UInt8}, s.length ≤ n → n < 2 ^ 61 → Calls T 285 [.str s] H fun r H' => H' = H ∧ r = .str (furA s) := by
  intro n
  induction n with
  | zero =>
    intro H s hl hn
    obtain rfl : s = [] := List.eq_nil_of_length_eq_zero (by omega)
    refine Calls.fn D.pr D.fn ?_
    simp [ir285]
    refine WC.of (c291 D.d291 (s := []) (by simp)) ?_
    rintro r H ⟨rfl, rfl⟩
    have hb := ofB_in []
    have hst := stepV_in []
    unfold inN at hb hst
    simp [show countB [] = false from rfl]
    refine WC.of (c187 D.d187 (s := []) (by simp)) ?_
    rintro r H ⟨rfl, rfl⟩
    simp (disch := omega) [wrap64]
    rw [← stepV]
    refine WC.of (c284 D.d284 (n := stepV []) (by omega) (by omega)) ?_
    rintro r H ⟨rfl, rfl⟩
    simp [furA, show countB [] = false from rfl]
  | succ n ih =>
    intro H s hl hn
    refine Calls.fn D.pr D.fn ?_
    simp [ir285]
    refine WC.of (c291 D.d291 (s := s) (by omega)) ?_
    rintro r H ⟨rfl, rfl⟩
    cases hc : countB s with
    | false =>
      have hb := ofB_in s
      have hst := stepV_in s
      unfold inN at hb hst
      simp
      refine WC.of (c187 D.d187 (s := s) (by omega)) ?_
      rintro r H ⟨rfl, rfl⟩
      simp (disch := omega) [wrap64]
      rw [← stepV]
      refine WC.of (c284 D.d284 (n := stepV s) (by omega) (by omega)) ?_
      rintro r H ⟨rfl, rfl⟩
      simp [furA, hc]
    | true =>
      have hne : s ≠ [] := by rintro rfl; simp [countB] at hc
      have hpos : 0 < s.length := List.length_pos_iff.2 hne
      obtain ⟨j, hj⟩ : ∃ j, s.length = j + 1 := ⟨s.length - 1, by omega⟩
      have ei : ((s.length : Int) - 1) = (j : Int) := by omega
      have et : s = s.take j ++ [nth s (j : Int)] := by rw [← take_nth (by omega), List.take_of_length_le (by omega)]
      have e1 : furR s = fur (nth s (j : Int) :: (s.take j).reverse) [] := by
        unfold furR
        conv => lhs; rw [et]
        rw [List.reverse_append]; rfl
      have hsm := count_small hc (nth_mem (l := s) (j := j) (by omega))
      have eA : furA s = furR s := by unfold furA; rw [if_pos hc]
      rw [eA]
      have hjl : (j : Int) < s.length := by omega
      obtain ⟨c, hcc⟩ : ∃ c, nth s (j : Int) = c := ⟨_, rfl⟩
      rw [hcc] at e1 hsm
      have wj := wrap64 (n := (j : Int)) (by omega) (by omega)
      have hlt : (s.take j).length = j := by rw [List.length_take]; omega
      have last : ∀ f : UInt8, wrapB c = some f → furR s = if j = 0 then [if c = 57 then 49 else f, f] else furA (s.take j) ++ [f] := by
        intro f hf
        rw [e1, fur, hf]
        simp only
        by_cases h0 : j = 0
        · subst h0; simp
        · have hr : (s.take j).reverse ≠ [] := by
            intro h
            have := congrArg List.length h
            rw [List.length_reverse, hlt, List.length_nil] at this
            omega
          rw [if_neg hr, if_neg h0, show ([f] : List UInt8) = [] ++ [f] from rfl, fur_app]
          have : countB (s.take j) = true := count_take hc (by omega)
          unfold furA; rw [if_pos this]; rfl
      have rec' : ∀ {f : UInt8}, wrapB c = some f → j ≠ 0 → Calls T 285 [.str (s.take j)] H fun r H' => H' = H ∧ r = .str (furA (s.take j)) := fun _ _ => ih (by omega) (by omega)
      have hfl := furA_len (s.take j)
      rw [hlt] at hfl
      simp (disch := omega) [hj, ei, wj, hjl, hcc, wrap64]
      by_cases c1 : c = 122
      · subst c1
        have hw := last 97 rfl
        by_cases h0 : j = 0
        · subst h0
          rw [hw]; simp [hj]
        · rw [if_neg h0] at hw
          simp (disch := omega) [h0, ei, hj, wj, show ¬ ((j : Int) + 1 = 1) by omega]
          refine ⟨by omega, by omega, WC.of (ih (s := s.take j) (by omega) (by omega)) ?_⟩
          rintro r H ⟨rfl, rfl⟩
          rw [hw]
          simp [show ¬ (4611686018427387904 : Int) < (furA (s.take j)).length + 1 by omega]
      · have k1 : ¬ (c.toNat : Int) = 122 := fun h => c1 ((u8_eqk c 122 (by omega)).1 h)
        by_cases c2 : c = 90
        · subst c2
          have hw := last 65 rfl
          by_cases h0 : j = 0
          · subst h0
            rw [hw]; simp [hj]
          · rw [if_neg h0] at hw
            simp (disch := omega) [h0, ei, hj, wj, show ¬ ((j : Int) + 1 = 1) by omega]
            refine ⟨by omega, by omega, WC.of (ih (s := s.take j) (by omega) (by omega)) ?_⟩
            rintro r H ⟨rfl, rfl⟩
            rw [hw]
            simp [show ¬ (4611686018427387904 : Int) < (furA (s.take j)).length + 1 by omega]
        · have k2 : ¬ (c.toNat : Int) = 90 := fun h => c2 ((u8_eqk c 90 (by omega)).1 h)
          by_cases c3 : c = 57
          · subst c3
            have hw := last 48 rfl
            by_cases h0 : j = 0
            · subst h0
              rw [hw]; simp [hj]
            · rw [if_neg h0] at hw
              simp (disch := omega) [h0, ei, hj, wj, show ¬ ((j : Int) + 1 = 1) by omega]
              refine ⟨by omega, by omega, WC.of (ih (s := s.take j) (by omega) (by omega)) ?_⟩
              rintro r H ⟨rfl, rfl⟩
              rw [hw]
              simp [show ¬ (4611686018427387904 : Int) < (furA (s.take j)).length + 1 by omega]
          · have k3 : ¬ (c.toNat : Int) = 57 := fun h => c3 ((u8_eqk c 57 (by omega)).1 h)
            have hx : wrapB c = none := by unfold wrapB; rw [if_neg c1, if_neg c2, if_neg c3]
            have e : furR s = s.take j ++ [c + 1] := by rw [e1, fur, hx]; simp
            have ee := enc_succ hsm
            have es := list_size ee
            rw [e]
            simp (disch := omega) [k1, k2, k3, hj, ei, wj, hcc, wrap8, wrap32, ee, es, hlt, show ¬ (4611686018427387904 : Int) < (j : Int) + 1 by omega]
            omega

def nextR (s : List UInt8) : List UInt8 × Int := if 4096 < s.length then ([], 3) else if 4096 < (furA s).length then ([], 3) else (furA s, 0)

theorem c277 (D : D277 T) {H : AHeap} {s : List UInt8} : Calls T 277 [.str s] H fun r H' => H' = H ∧ r = .tup [.str (nextR s).1, .int .i64 (nextR s).2] := by
  refine Calls.fn D.pr D.fn ?_
  by_cases h1 : 4096 < s.length
  · simp [ir277, nextR, h1, show (4096 : Int) < s.length by omega]
  · simp [ir277, h1, show ¬ (4096 : Int) < s.length by omega]
    refine WC.of (c285 D.d285 4096 (s := s) (by omega) (by omega)) ?_
    rintro r H ⟨rfl, rfl⟩
    unfold nextR
    generalize furA s = u
    by_cases h2 : 4096 < u.length
    · simp [h1, h2, show (4096 : Int) < u.length by omega]
    · simp [h1, h2, show ¬ (4096 : Int) < u.length by omega]

theorem c278 (D : D278 T) {H : AHeap} (hw : WF H) {s : List UInt8} : Calls T 278 [.str s] H fun r H' => Fr H H' ∧ r = .tup [.str (nextR s).1, .int .i64 (nextR s).2] := by
  refine Calls.fn D.pr D.fn ?_
  by_cases h1 : 4096 < s.length
  · simp [ir278, nextR, h1, show (4096 : Int) < s.length by omega]
    exact .refl hw
  · simp [ir278, h1, show ¬ (4096 : Int) < s.length by omega]
    refine WC.of (c286 D.d286 (s := s) (by omega)) ?_
    rintro r H ⟨rfl, rfl⟩
    cases hc : countB s with
    | false =>
      have hst := stepV_in s
      have hl := itoa_len hst
      have hA : furA s = Lib.itoa (stepV s) := by unfold furA; rw [if_neg (by simp [hc])]
      have eN : nextR s = (Lib.itoa (stepV s), 0) := by unfold nextR; rw [if_neg h1, hA, if_neg (by omega)]
      rw [eN]
      simp
      refine WC.of (c189 D.d189 (s := s) (by omega)) ?_
      rintro r H ⟨rfl, rfl, hb⟩
      unfold inN at hst hb
      simp (disch := omega) [wrap64]
      rw [← stepV]
      refine WC.of (Calls.prim D.p283 (Q := fun r H' => H' = H ∧ r = .str (Lib.itoa (stepV s))) (by simp [itoaPrim]; omega) ⟨rfl, rfl⟩) ?_
      rintro r K2 ⟨rfl, rfl⟩
      simp
      exact .refl hw
    | true =>
      have hA : furA s = furR s := by unfold furA; rw [if_pos hc]
      simp
      refine WC.of (c287 D.d287 hw (by omega) hc) ?_
      rintro r K ⟨f1, rfl⟩
      unfold nextR
      rw [hA]
      generalize furR s = u
      by_cases h2 : 4096 < u.length
      · simp [h1, h2, show (4096 : Int) < u.length by omega, f1]
      · simp [h1, h2, show ¬ (4096 : Int) < u.length by omega, f1]

theorem c270 (D : D270 T) {H : AHeap} (hw : WF H) {s : List UInt8} : Calls T 270 [.str s] H fun r _ => r = .bool true := by
  refine Calls.fn D.pr D.fn ?_
  have known : ∀ {X : AHeap}, WF X → Calls T 241 [] X fun v _ => v = .bool true := fun h => c241 D.d241 h
  simp [ir270]
  refine WC.of (c240 D.d240) ?_
  rintro r H ⟨rfl, rfl⟩
  by_cases hlong : (16384 : Int) < s.length
  · simp [hlong]
    refine WC.of (known hw) ?_
    rintro v H' rfl
    simp
  simp [hlong]
  refine WC.of (c277 D.d277) ?_
  rintro r H ⟨rfl, rfl⟩
  simp
  refine WC.of (c278 D.d278 hw) ?_
  rintro r K ⟨f1, rfl⟩
  simp
  refine WC.of (known f1.wf) ?_
  rintro v H' rfl
  simp

theorem law270 (D : D270 T) {K : AHeap} {as : List AV} (hw : WF K) (hg : Goods K [.str] as) : Calls T 270 as K fun v _ => v = .bool true := by
  obtain ⟨a, r, rfl, g1, rfl⟩ := hg
  obtain ⟨s, rfl, _⟩ := g1.str
  exact c270 D hw
end Go.Am
