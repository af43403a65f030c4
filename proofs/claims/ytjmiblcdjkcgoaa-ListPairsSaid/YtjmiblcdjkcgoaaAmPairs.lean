/- Contracts: lists two by two, and laid into each other. -/
import Derived.Test.YtjmiblcdjkcgoaaAmFloat
import Derived.Test.YtjmiblcdjkcgoaaAmNumbers2
set_option linter.unusedVariables false
set_option linter.unusedSimpArgs false
namespace Go.Am
variable {T : Tab}

/-! ### Lists of lists of texts -/
def Sls (H : AHeap) (v : AV) (ls : List (List (List UInt8))) : Prop :=
  ∃ vs : List AV, Sl encA 1 H v vs ∧ vs.length = ls.length ∧ ∀ i : Nat, i < ls.length → Sl encS 1 H (encA (nth vs (i : Int))) (nth ls (i : Int))

theorem Sls.fr {H H' : AHeap} {v : AV} {ls : List (List (List UInt8))} (h : Sls H v ls) (hw : WF H) (k : Fr H H') : Sls H' v ls := by
  obtain ⟨vs, h1, h2, h3⟩ := h
  exact ⟨vs, h1.fr hw k, h2, fun i hi => (h3 i hi).fr hw k⟩
theorem Sls.len {H : AHeap} {v : AV} {ls : List (List (List UInt8))} (h : Sls H v ls) : psem .len [v] = some (.int .i64 ls.length) := by
  obtain ⟨vs, h1, h2, _⟩ := h
  rw [← h2]; exact h1.len
theorem Sls.ia {H : AHeap} {v : AV} {ls : List (List (List UInt8))} (h : Sls H v ls) {k : IntKind} {i : Int} (h0 : 0 ≤ i) (h1 : i < ls.length) : psem (.ia 1) [v, .int k i] = some (elt v 1 i) := by
  obtain ⟨vs, q1, q2, _⟩ := h
  exact q1.ia h0 (by omega)
theorem Sls.get {H : AHeap} {v : AV} {ls : List (List (List UInt8))} (h : Sls H v ls) {i : Nat} (hi : i < ls.length) : ∃ u, rsem (.ld 1 false) [elt v 1 (i : Int)] H = some u ∧ Sl encS 1 H u (nth ls (i : Int)) := by
  obtain ⟨vs, q1, q2, q3⟩ := h
  exact ⟨_, q1.ld (by omega) (by omega), q3 i hi⟩

theorem choose_list {α β : Type} [Inhabited α] [Inhabited β] {P : α → β → Prop} : ∀ {l : List α}, (∀ y ∈ l, ∃ m, P y m) → ∃ ms : List β, l.length = ms.length ∧ ∀ i : Nat, i < ms.length → P (nth l (i : Int)) (nth ms (i : Int))
  | [], _ => ⟨[], rfl, fun i hi => by simp at hi⟩
  | y :: l, h => by
    obtain ⟨m, hm⟩ := h y (by simp)
    obtain ⟨ms, h1, h2⟩ := choose_list (l := l) fun z hz => h z (by simp [hz])
    refine ⟨m :: ms, by simp [h1], fun i hi => ?_⟩
    cases i with
    | zero => exact hm
    | succ i =>
      have := h2 i (by simpa using hi)
      simpa [nth] using this

theorem GoodV.strss {H : AHeap} {a : AV} (h : GoodV H (.slice (.slice .str)) a) : ∃ ls, Sls H a ls ∧ ls.length ≤ maxLen ∧ ∀ i : Nat, i < ls.length → (nth ls (i : Int)).length ≤ maxLen := by
  have h : Good H (.slice (.slice .str)) [a] := h
  obtain ⟨a', l, h1, h2, h3, h4⟩ := h
  cases h1
  have one : ∀ x ∈ l, ∃ b, x = [b] ∧ b.cell = true ∧ ∃ m, Sl encS 1 H b m ∧ m.length ≤ maxLen := by
    intro x hx
    obtain ⟨b, m, e, q1, q2, _⟩ := (h4 x hx).strs
    exact ⟨b, e, q1.form.1, m, q1, q2⟩
  obtain ⟨vs, q1, q2, q3⟩ := h3.view (enc := encA) (fun x hx => by
    obtain ⟨b, e, hc, _⟩ := one x hx
    refine ⟨b, ?_⟩
    have : encA b = b := by unfold encA; rw [if_pos hc]
    rw [this, e]
    cases b <;> simp_all [AV.cells, AV.cell])
  obtain ⟨ms, r1, r2⟩ := choose_list (P := fun y m => Sl encS 1 H (encA y) m ∧ m.length ≤ maxLen) (l := vs) (fun y hy => by
    obtain ⟨b, e, hc, m, q, qm⟩ := one (encA y).cells (by rw [q3]; exact List.mem_map_of_mem (f := fun y => (encA y).cells) hy)
    rw [Cell.cells] at e
    simp at e
    exact ⟨m, by rw [e]; exact q, qm⟩)
  exact ⟨ms, ⟨vs, q1, r1, fun i hi => (r2 i hi).1⟩, by omega, fun i hi => (r2 i hi).2⟩

theorem c136 (D : D136 T) {H : AHeap} {v : AV} {ls : List (List (List UInt8))} (hv : Sls H v ls) (hl : ls.length < 2 ^ 63) (hm : ∀ i : Nat, i < ls.length → (nth ls (i : Int)).length < 2 ^ 63) : Calls T 136 [v] H fun r H' => H' = H ∧ ∃ b, r = .bool b := by
  refine Calls.fn D.pr D.fn ?_
  simp [ir136, hv.len]
  refine W_loop (fun (i : Nat) e H' => H' = H ∧ e 0 = v ∧ (∃ n, e 3 = .int .i64 n) ∧ ∃ j : Nat, i + j = ls.length ∧ e 4 = .int .i64 j) id ls.length ?_ ?_
  · exact ⟨rfl, by simp, ⟨ls.length, by simp⟩, 0, by simp, by simp⟩
  · rintro i0 e H ⟨rfl, h0, ⟨n, h3⟩, j, hj, h4⟩
    by_cases h2 : j < ls.length
    · obtain ⟨u, l1, su⟩ := hv.get h2
      have hml := hm j h2
      generalize nth ls (j : Int) = m at *
      simp (disch := omega) [h0, h3, h4, hv.len, h2, hv.ia, l1, su.len]
      refine W_loop (fun (i : Nat) e H' => H' = H ∧ e 0 = v ∧ (∃ n, e 3 = .int .i64 n) ∧ e 4 = .int .i64 j ∧ ∃ q : Nat, i + q = m.length ∧ e 5 = .int .i64 q) id m.length ?_ ?_
      · exact ⟨rfl, by simp [h0], ⟨IntKind.i64.wrap (n + m.length), by simp⟩, by simp [h4], 0, by simp, by simp⟩
      · rintro i e H ⟨rfl, g0, ⟨n, g3⟩, g4, q, hq, g5⟩
        by_cases h5 : q < m.length
        · have lv := su.ld (i := (q : Int)) (by omega) (by omega)
          simp (disch := omega) [g0, g3, g4, g5, hv.ia, l1, su.len, h5, su.ia, lv, wrap64]
          exact ⟨i - 1, by omega, q + 1, by omega, by omega⟩
        · simp (disch := omega) [g0, g3, g4, g5, hv.ia, l1, su.len, h5, wrap64]
          exact ⟨i0 - 1, by omega, j + 1, by omega, by omega⟩
    · simp [h0, h3, h4, hv.len, h2]
      omega

def manyB (ls : List (List (List UInt8))) : Bool := decide (200 < ls.length) || ls.any fun l => decide (200 < l.length)

theorem c163 (D : D163 T) {H : AHeap} {v : AV} {ls : List (List (List UInt8))} (hv : Sls H v ls) : Calls T 163 [v] H fun r H' => H' = H ∧ r = .bool (manyB ls) := by
  refine Calls.fn D.pr D.fn ?_
  unfold manyB
  by_cases h1 : 200 < ls.length
  · simp [ir163, hv.len, h1, show (200 : Int) < ls.length by omega]
  simp [ir163, hv.len, h1, show ¬ (200 : Int) < ls.length by omega]
  generalize ha : (ls.any fun l => decide (200 < l.length)) = b
  refine W_loop (fun (i : Nat) e H' => H' = H ∧ e 0 = v ∧ ∃ j : Nat, i + j = ls.length ∧ e 3 = .int .i64 j ∧ ((ls.drop j).any fun l => decide (200 < l.length)) = b) id ls.length ?_ ?_
  · exact ⟨rfl, by simp, 0, by simp, by simp, by simpa using ha⟩
  · rintro i e H ⟨rfl, h0, j, hj, h3, hb⟩
    by_cases h2 : j < ls.length
    · obtain ⟨u, l1, su⟩ := hv.get h2
      rw [drop_nthG h2, List.any_cons] at hb
      generalize nth ls (j : Int) = m at *
      by_cases hm : 200 < m.length
      · have hb : b = true := by rw [← hb]; simp [hm]
        simp (disch := omega) [h0, h3, hv.len, h2, hv.ia, l1, su.len, show (200 : Int) < m.length by omega, hb]
      · simp (disch := omega) [h0, h3, hv.len, h2, hv.ia, l1, su.len, show ¬ (200 : Int) < m.length by omega, wrap64]
        exact ⟨i - 1, by omega, j + 1, by omega, by omega, by simpa [hm] using hb⟩
    · rw [List.drop_eq_nil_of_le (by omega)] at hb
      simp at hb
      simp [h0, h3, hv.len, h2, hb]

theorem c164 (D : D164 T) {H : AHeap} {v : AV} {ls : List (List (List UInt8))} (hv : Sls H v ls) : Calls T 164 [v] H fun r H' => H' = H ∧ r = .int .i64 (if manyB ls then 3 else 0) := by
  refine Calls.fn D.pr D.fn ?_
  unfold manyB
  generalize ha : (ls.any fun l => decide (200 < l.length)) = b
  by_cases h1 : 200 < ls.length
  · simp [ir164, hv.len, h1, show (200 : Int) < ls.length by omega]
  simp [ir164, hv.len, h1, show ¬ (200 : Int) < ls.length by omega]
  refine W_loop (fun (i : Nat) e H' => H' = H ∧ e 8 = v ∧ e 9 = .int .i64 ls.length ∧ ∃ j : Nat, i + j = ls.length ∧ e 10 = .int .i64 j ∧ ((ls.drop j).any fun l => decide (200 < l.length)) = b) id ls.length ?_ ?_
  · exact ⟨rfl, by simp, by simp, 0, by simp, by simp, by simpa using ha⟩
  · rintro i e H ⟨rfl, h0, h9, j, hj, h3, hb⟩
    by_cases h2 : j < ls.length
    · obtain ⟨u, l1, su⟩ := hv.get h2
      rw [drop_nthG h2, List.any_cons] at hb
      generalize nth ls (j : Int) = m at *
      by_cases hm : 200 < m.length
      · have hb : b = true := by rw [← hb]; simp [hm]
        simp (disch := omega) [h0, h3, h9, hv.len, h2, hv.ia, l1, su.len, show (200 : Int) < m.length by omega, hb]
      · simp (disch := omega) [h0, h3, h9, hv.len, h2, hv.ia, l1, su.len, show ¬ (200 : Int) < m.length by omega, wrap64]
        exact ⟨i - 1, by omega, j + 1, by omega, by omega, by simpa [hm] using hb⟩
    · rw [List.drop_eq_nil_of_le (by omega)] at hb
      simp at hb
      simp [h0, h3, h9, hv.len, h2, hb]
end Go.Am
