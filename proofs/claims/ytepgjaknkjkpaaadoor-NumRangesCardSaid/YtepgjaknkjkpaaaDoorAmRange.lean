/- Contracts: the texts from one to another one. -/
import Derived.Test.YtepgjaknkjkpaaaDoorAmNext
set_option linter.unusedVariables false
set_option linter.unusedSimpArgs false
namespace Go.Am
variable {T : Tab}

def rangeGo (to : List UInt8) : Nat → List UInt8 → List (List UInt8) → Option (List (List UInt8))
  | 0, s, acc => if s.length ≤ to.length then none else some acc
  | n + 1, s, acc => if s.length ≤ to.length then (if s = to then some (acc ++ [s]) else rangeGo to n (furA s) (acc ++ [s])) else some acc
def resG : Option (List (List UInt8)) → List (List UInt8) × Int
  | none => ([], 3)
  | some l => (l, 0)
def rangeR (a b : List UInt8) : List (List UInt8) × Int := if 4096 < a.length ∨ 4096 < b.length then ([], 3) else resG (rangeGo b 200 a [])

theorem rangeGo_long {to : List UInt8} {n : Nat} {s : List UInt8} {acc : List (List UInt8)} (h : to.length < s.length) : rangeGo to n s acc = some acc := by
  cases n <;> (unfold rangeGo; rw [if_neg (by omega)])
theorem rangeGo_len {to : List UInt8} : ∀ (n : Nat) {s : List UInt8} {acc : List (List UInt8)}, (resG (rangeGo to n s acc)).1.length ≤ acc.length + n
  | 0, s, acc => by unfold rangeGo; split <;> simp [resG]
  | n + 1, s, acc => by
    unfold rangeGo
    split
    · split
      · simp [resG]
      · have := rangeGo_len n (to := to) (s := furA s) (acc := acc ++ [s])
        rw [List.length_append, List.length_singleton] at this
        omega
    · simp [resG]
theorem rangeR_len (a b : List UInt8) : (rangeR a b).1.length ≤ 200 := by
  unfold rangeR
  split
  · simp
  · have := rangeGo_len 200 (to := b) (s := a) (acc := [])
    simpa using this

theorem c281 (D : D281 T) {H : AHeap} (hw : WF H) {a b : List UInt8} : Calls T 281 [.str a, .str b] H fun r H' => Fr H H' ∧ ∃ v, r = .tup [v, .int .i64 (rangeR a b).2] ∧ Made encS 1 H.next H' v (rangeR a b).1 := by
  refine Calls.fn D.pr D.fn ?_
  by_cases h1 : 4096 < a.length
  · simp [ir281, rangeR, h1, show (4096 : Int) < a.length by omega]
    exact ⟨.refl hw, .nil⟩
  by_cases h2 : 4096 < b.length
  · simp [ir281, rangeR, h1, h2, show ¬ (4096 : Int) < a.length by omega, show (4096 : Int) < b.length by omega]
    exact ⟨.refl hw, .nil⟩
  have eR : rangeR a b = resG (rangeGo b 200 a []) := by unfold rangeR; rw [if_neg (by omega)]
  rw [eR]
  generalize hG0 : rangeGo b 200 a [] = g0
  simp [ir281, show ¬ (4096 : Int) < a.length by omega, show ¬ (4096 : Int) < b.length by omega]
  refine W_loop (fun (n : Nat) e K => Fr H K ∧ e 1 = .str b ∧ ∃ s, e 7 = .str s ∧ ∃ v l, e 6 = v ∧ Made encS 1 H.next K v l ∧ n + l.length = 200 ∧ g0 = rangeGo b n s l) id 200 ?_ ?_
  · exact ⟨.refl hw, by simp, a, by simp, .slc none 0 0 none, [], by simp, .nil, by simp, hG0.symm⟩
  · rintro n e K ⟨fr, h1, s, h7, v, l, h6, mo, hn, hg⟩
    rw [hg]
    by_cases hs : s.length ≤ b.length
    · cases n with
      | zero =>
        have hl : l.length = 200 := by omega
        rw [rangeGo, if_pos hs]
        simp [h1, h6, h7, hs, mo.sl.len, hl, resG]
        exact ⟨fr, .nil⟩
      | succ n =>
        obtain ⟨v', K', q1, q2, q3⟩ := push1_made (bytes := 16) fr mo s (by omega) (by omega)
        have hb : wsem0 (.bsl 1 1 [.str []] [(0, 1)]) [.str s] K = some (.slc (some (K.next, 0)) 1 1 (some 1), K.new [.str s]) := wsem0_bsl1 rfl
        have q1 : wsem0 (.app 1 16) [v, .slc (some (K.next, 0)) 1 1 (some 1)] (K.new [.str s]) = some (v', K') := q1
        rw [rangeGo, if_pos hs] at hg ⊢
        have hl : ¬ ((l.length : Int) = 200) := by omega
        simp [h1, h6, h7, hs, mo.sl.len, hl, hb, q1]
        by_cases he : s = b
        · subst he
          rw [if_pos rfl] at hg ⊢
          simp [resG]
          exact ⟨q2, q3⟩
        · rw [if_neg he] at hg ⊢
          simp [he, h1, h7]
          refine WC.of (c285 D.d285 4096 (s := s) (by omega) (by omega)) ?_
          rintro r K2 ⟨rfl, rfl⟩
          simp [h1]
          exact ⟨n, by omega, q2, l ++ [s], q3, by simp; omega, rfl⟩
    · rw [rangeGo_long (by omega)]
      simp [h1, h6, h7, hs, resG]
      exact ⟨fr, mo⟩

theorem c282 (D : D282 T) {H : AHeap} (hw : WF H) {a b : List UInt8} : Calls T 282 [.str a, .str b] H fun r H' => Fr H H' ∧ ∃ v, r = .tup [v, .int .i64 (rangeR a b).2] ∧ Made encS 1 H.next H' v (rangeR a b).1 := by
  refine Calls.fn D.pr D.fn ?_
  by_cases h1 : 4096 < a.length
  · simp [ir282, rangeR, h1, show (4096 : Int) < a.length by omega]
    exact ⟨.refl hw, .nil⟩
  by_cases h2 : 4096 < b.length
  · simp [ir282, rangeR, h1, h2, show ¬ (4096 : Int) < a.length by omega, show (4096 : Int) < b.length by omega]
    exact ⟨.refl hw, .nil⟩
  have eR : rangeR a b = resG (rangeGo b 200 a []) := by unfold rangeR; rw [if_neg (by omega)]
  rw [eR]
  generalize hG0 : rangeGo b 200 a [] = g0
  simp [ir282, show ¬ (4096 : Int) < a.length by omega, show ¬ (4096 : Int) < b.length by omega]
  refine W_loop (fun (n : Nat) e K => Fr H K ∧ e 1 = .str b ∧ ∃ s, e 7 = .str s ∧ ∃ v l, e 6 = v ∧ Made encS 1 H.next K v l ∧ n + l.length = 200 ∧ g0 = rangeGo b n s l) id 200 ?_ ?_
  · exact ⟨.refl hw, by simp, a, by simp, .slc none 0 0 none, [], by simp, .nil, by simp, hG0.symm⟩
  · rintro n e K ⟨fr, h1, s, h7, v, l, h6, mo, hn, hg⟩
    rw [hg]
    by_cases hs : s.length ≤ b.length
    · cases n with
      | zero =>
        have hl : l.length = 200 := by omega
        rw [rangeGo, if_pos hs]
        simp [h1, h6, h7, hs, mo.sl.len, hl, resG]
        exact ⟨fr, .nil⟩
      | succ n =>
        obtain ⟨v', K', q1, q2, q3⟩ := push1_made (bytes := 16) fr mo s (by omega) (by omega)
        have hb : wsem0 (.bsl 1 1 [.str []] [(0, 1)]) [.str s] K = some (.slc (some (K.next, 0)) 1 1 (some 1), K.new [.str s]) := wsem0_bsl1 rfl
        have q1 : wsem0 (.app 1 16) [v, .slc (some (K.next, 0)) 1 1 (some 1)] (K.new [.str s]) = some (v', K') := q1
        rw [rangeGo, if_pos hs] at hg ⊢
        have hl : ¬ ((l.length : Int) = 200) := by omega
        simp [h1, h6, h7, hs, mo.sl.len, hl, hb, q1]
        refine WC.of (c278 D.d278 q2.wf (s := s)) ?_
        rintro r K2 ⟨f2, rfl⟩
        have fr2 := q2.trans f2
        have mo2 := q3.fr q2.wf f2
        by_cases he : s = b
        · subst he
          rw [if_pos rfl] at hg ⊢
          simp [resG, h1, h7]
          exact ⟨fr2, mo2⟩
        · rw [if_neg he] at hg ⊢
          unfold nextR
          rw [if_neg (by omega)]
          by_cases hf : 4096 < (furA s).length
          · rw [rangeGo_long (by omega)]
            simp [he, hf, resG, h1, h7]
            exact ⟨fr2, mo2⟩
          · simp [he, hf, h1, h7]
            exact ⟨n, by omega, fr2, l ++ [s], mo2, by simp; omega, rfl⟩
    · rw [rangeGo_long (by omega)]
      simp [h1, h6, h7, hs, resG]
      exact ⟨fr, mo⟩

theorem c272 (D : D272 T) {H : AHeap} (hw : WF H) {a b : List UInt8} : Calls T 272 [.str a, .str b] H fun r _ => r = .bool true := by
  refine Calls.fn D.pr D.fn ?_
  have known : ∀ {X : AHeap}, WF X → Calls T 241 [] X fun v _ => v = .bool true := fun h => c241 D.d241 h
  simp [ir272]
  refine WC.of (c240 D.d240) ?_
  rintro r H ⟨rfl, rfl⟩
  by_cases h1 : (16384 : Int) < a.length
  · simp [h1]
    refine WC.of (known hw) ?_
    rintro v H' rfl
    simp
  simp [h1]
  refine WC.of (c240 D.d240) ?_
  rintro r H ⟨rfl, rfl⟩
  by_cases h2 : (16384 : Int) < b.length
  · simp [h2]
    refine WC.of (known hw) ?_
    rintro v H' rfl
    simp
  simp [h2]
  refine WC.of (c281 D.d281 hw) ?_
  rintro r H1 ⟨f1, u, rfl, m1⟩
  simp
  refine WC.of (c282 D.d282 f1.wf) ?_
  rintro r H2 ⟨f2, v, rfl, m2⟩
  have := rangeR_len a b
  simp
  refine WC.of (c122 D.d122 m2.sl (m1.sl.fr f1.wf f2) (by omega)) ?_
  rintro r H3 ⟨rfl, rfl⟩
  simp
  refine WC.of (known f2.wf) ?_
  rintro v H' rfl
  simp

theorem law272 (D : D272 T) {K : AHeap} {as : List AV} (hw : WF K) (hg : Goods K [.str, .str] as) : Calls T 272 as K fun v _ => v = .bool true := by
  obtain ⟨a, r, rfl, g1, b, r2, rfl, g2, rfl⟩ := hg
  obtain ⟨s, rfl, _⟩ := g1.str
  obtain ⟨t, rfl, _⟩ := g2.str
  exact c272 D hw
end Go.Am
