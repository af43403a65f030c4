/- The law of a list of numbers that an operation makes one of. -/
import Derived.Test.YtepgjaknkjkpaaaDoorAmNum6
set_option linter.unusedVariables false
set_option linter.unusedSimpArgs false
namespace Go.Am
variable {T : Tab}

def redL (op : Int) : List Int → Int → Int × Int × Int
  | [], n => (n, 0, 0)
  | x :: r, n => if (doR op n x).2.1 ≠ 0 then (0, (doR op n x).2.1, 0) else redL op r (doR op n x).1
def redAll (op : Int) : List Int → Int × Int × Int
  | [] => (0, 0, 0)
  | x :: r => redL op r x
def reduceR (op : Int) (l : List Int) : Int × Int × Int :=
  if 200 < l.length then (0, 0, 3) else if op < 0 ∨ 8 < op then (0, 0, 1) else if ∃ x ∈ l, ¬ inN x then (0, 0, 1) else redAll op l

theorem doR_err (op a b : Int) : (doR op a b).2.2 = if op < 0 ∨ 8 < op ∨ ¬ inN a ∨ ¬ inN b then 1 else 0 := by
  unfold doR
  split <;> rfl

theorem drop_nthG {α : Type} [Inhabited α] {s : List α} {j : Nat} (h : j < s.length) : s.drop j = nth s (j : Int) :: s.drop (j + 1) := by
  have : nth s (j : Int) = s[j] := by simp [nth, List.getElem?_eq_getElem h]
  rw [this]; exact List.drop_eq_getElem_cons h

theorem c143 (D : D143 T) {H : AHeap} {op : Int} {v : AV} {l : List Int} (hv : Sl encI 1 H v l) : Calls T 143 [.int .i64 op, v] H fun r H' => H' = H ∧ r = pr3 (reduceR op l) := by
  refine Calls.fn D.pr D.fn ?_
  by_cases h1 : 200 < l.length
  · simp [ir143, hv.len, reduceR, h1, show (200 : Int) < l.length by omega]
  by_cases h2 : op < 0
  · simp [ir143, hv.len, reduceR, h1, h2, show ¬ (200 : Int) < l.length by omega]
  by_cases h3 : 8 < op
  · simp [ir143, hv.len, reduceR, h1, h2, h3, show ¬ (200 : Int) < l.length by omega]
  simp [ir143, hv.len, h2, h3, show ¬ (200 : Int) < l.length by omega]
  have e0 : reduceR op l = if ∃ x ∈ l, ¬ inN x then (0, 0, 1) else redAll op l := by
    unfold reduceR; rw [if_neg h1, if_neg (by omega)]
  refine W_loop (fun (i : Nat) e K => K = H ∧ e 0 = .int .i64 op ∧ e 1 = v ∧ ∃ j : Nat, i + j = l.length ∧ e 7 = .int .i64 j ∧ ∀ x ∈ l.take j, inN x) id l.length ?_ ?_
  · simp
  · rintro i e H ⟨rfl, g0, g1, j, hj, g7, hall⟩
    simp [g1, g7, hv.len]
    refine WB.bool ?_ ?_
    · intro hlt
      simp at hlt
      have lv := hv.ld (i := (j : Int)) (by omega) (by omega)
      have hm := nth_mem hlt
      have et := take_nth hlt
      simp (disch := omega) [g0, g1, g7, hv.ia, lv]
      refine WC.of (c165 D.d165) ?_
      rintro r H ⟨rfl, rfl⟩
      by_cases hn : inN (nth l (j : Int))
      · simp (disch := omega) [hn, g0, g1, g7, wrap64]
        refine ⟨i - 1, by omega, j + 1, by omega, by omega, ?_⟩
        rw [et]
        intro x hx
        rcases List.mem_append.1 hx with hx | hx
        · exact hall x hx
        · rw [List.mem_singleton.1 hx]; exact hn
      · have : reduceR op l = (0, 0, 1) := by rw [e0, if_pos ⟨_, hm, hn⟩]
        simp [hn, this]
    · intro hlt
      simp at hlt
      rw [List.take_of_length_le (by omega)] at hall
      have e1 : reduceR op l = redAll op l := by
        rw [e0, if_neg]; rintro ⟨x, hx, hn⟩; exact hn (hall x hx)
      cases l with
      | nil => simp [g1, hv.len, e1, redAll]
      | cons x r =>
        have ia0 : psem (.ia 1) [v, .int .i64 0] = some (elt v 1 0) := hv.ia (by omega) (by simp)
        have ld0 := hv.ld (i := 0) (by omega) (by simp)
        rw [nth_cons] at ld0
        simp [g0, g1, hv.len, show ¬ ((r.length : Int) + 1 = 0) by omega, ia0, ld0, e1, redAll]
        refine W_loop (fun (i : Nat) e K => K = H ∧ e 0 = .int .i64 op ∧ e 1 = v ∧ ∃ j : Nat, i + j = r.length + 1 ∧ e 9 = .int .i64 j ∧ 1 ≤ j ∧ ∃ n, e 8 = .int .i64 n ∧ redL op r x = redL op ((x :: r).drop j) n) id r.length ?_ ?_
        · exact ⟨rfl, by simp [g0], by simp [g1], 1, by omega, by simp, by omega, x, by simp, by simp⟩
        · rintro i e H ⟨rfl, g0, g1, j, hj, g9, hj1, n, g8, hr⟩
          simp [g1, g9, hv.len]
          refine WB.bool ?_ ?_
          · intro hlt
            simp at hlt
            have hlt : j < (x :: r).length := by simp; omega
            have lv := hv.ld (i := (j : Int)) (by omega) (by omega)
            have iav : psem (.ia 1) [v, .int .i64 (j : Int)] = some (elt v 1 j) := hv.ia (by omega) (by omega)
            rw [drop_nthG hlt, redL] at hr
            generalize nth (x :: r) (j : Int) = y at *
            simp [g0, g1, g8, g9, iav, lv]
            refine WC.of (c166 D.d166) ?_
            rintro r2 H ⟨rfl, rfl⟩
            simp
            by_cases hz : (doR op n y).2.1 = 0
            · rw [if_neg (by simp [hz])] at hr
              simp (disch := omega) [hz, g0, g1, g9, wrap64]
              exact ⟨i - 1, by omega, j + 1, by omega, by omega, by omega, hr⟩
            · rw [if_pos hz] at hr
              simp [hz, hr]
          · intro hlt
            simp at hlt
            rw [List.drop_eq_nil_of_le (by simp; omega), redL] at hr
            simp [g8, hr]

theorem c144 (D : D144 T) {H : AHeap} (hw : WF H) {op : Int} {v : AV} {l : List Int} (hv : Sl encI 1 H v l) : Calls T 144 [.int .i64 op, v] H fun r H' => Fr H H' ∧ r = pr3 (reduceR op l) := by
  refine Calls.fn D.pr D.fn ?_
  simp [ir144, hv.len]
  refine WC.of (c148 D.d148) ?_
  rintro r H ⟨rfl, rfl⟩
  by_cases h1 : 200 < l.length
  · simp [reduceR, h1, show (200 : Int) < l.length by omega]
    exact .refl hw
  simp [show ¬ (200 : Int) < l.length by omega]
  refine WC.of (c167 D.d167 hw) ?_
  rintro r H1 ⟨f1, rfl⟩
  have hz0 : inN 0 := by unfold inN; omega
  have d0 := doR_err op 0 0
  by_cases h2 : op < 0 ∨ 8 < op
  · have e1 : (doR op 0 0).2.2 = 1 := by rw [d0, if_pos (by omega)]
    simp [e1, reduceR, h1, h2]
    exact f1
  have e1 : (doR op 0 0).2.2 = 0 := by rw [d0, if_neg (by simp [hz0]; omega)]
  have hv1 := hv.fr hw f1
  simp [e1, hv1.len]
  have e0 : reduceR op l = if ∃ x ∈ l, ¬ inN x then (0, 0, 1) else redAll op l := by
    unfold reduceR; rw [if_neg h1, if_neg h2]
  refine W_loop (fun (i : Nat) e K => Fr H K ∧ e 0 = .int .i64 op ∧ e 1 = v ∧ e 35 = v ∧ e 36 = .int .i64 l.length ∧ ∃ j : Nat, i + j = l.length ∧ e 37 = .int .i64 j ∧ ∀ x ∈ l.take j, inN x) id l.length ?_ ?_
  · exact ⟨f1, by simp, by simp, by simp, by simp, 0, by simp, by simp, by simp⟩
  · rintro i e K ⟨fr, g0, g1, g35, g36, j, hj, g37, hall⟩
    have hv' := hv.fr hw fr
    simp [g36, g37]
    refine WB.bool ?_ ?_
    · intro hlt
      simp at hlt
      have lv := hv'.ld (i := (j : Int)) (by omega) (by omega)
      have hm := nth_mem hlt
      have et := take_nth hlt
      have d1 := doR_err op (nth l (j : Int)) 0
      simp (disch := omega) [g0, g1, g35, g36, g37, hv'.ia, lv]
      refine WC.of (c167 D.d167 fr.wf) ?_
      rintro r K2 ⟨f2, rfl⟩
      simp
      by_cases hn : inN (nth l (j : Int))
      · have e2 : (doR op (nth l (j : Int)) 0).2.2 = 0 := by rw [d1, if_neg (by simp [hz0, hn]; omega)]
        simp (disch := omega) [e2, g0, g1, g35, g36, g37, wrap64]
        refine ⟨i - 1, by omega, fr.trans f2, j + 1, by omega, by omega, ?_⟩
        rw [et]
        intro x hx
        rcases List.mem_append.1 hx with hx | hx
        · exact hall x hx
        · rw [List.mem_singleton.1 hx]; exact hn
      · have e2 : (doR op (nth l (j : Int)) 0).2.2 = 1 := by rw [d1, if_pos (by simp [hn])]
        have : reduceR op l = (0, 0, 1) := by rw [e0, if_pos ⟨_, hm, hn⟩]
        simp [e2, this]
        exact fr.trans f2
    · intro hlt
      simp at hlt
      rw [List.take_of_length_le (by omega)] at hall
      have e1 : reduceR op l = redAll op l := by
        rw [e0, if_neg]; rintro ⟨x, hx, hn⟩; exact hn (hall x hx)
      cases l with
      | nil => simp [g1, hv'.len, e1, redAll]; exact fr
      | cons x r =>
        have ia0 : psem (.ia 1) [v, .int .i64 0] = some (elt v 1 0) := hv'.ia (by omega) (by simp)
        have ld0 := hv'.ld (i := 0) (by omega) (by simp)
        rw [nth_cons] at ld0
        obtain ⟨vc, _, cc, _, rc, _, _⟩ := hv.cut 1 (x :: r).length (by simp) (Nat.le_refl _)
        have cc := fun kk => cc kk rfl
        simp only [List.take_length, List.drop_succ_cons, List.drop_zero] at rc
        simp only [Int.natCast_one] at cc
        have rcK := rc.fr hw fr
        have hb : r.length < 200 := by simp at h1; omega
        simp [g0, g1, hv'.len, show ¬ ((r.length : Int) + 1 = 0) by omega, ia0, ld0, e1, redAll, cc, rcK.len]
        refine W_loop (fun (i : Nat) e X => Fr H X ∧ e 0 = .int .i64 op ∧ e 59 = vc ∧ e 60 = .int .i64 r.length ∧ ∃ j : Nat, i + j = r.length ∧ e 61 = .int .i64 j ∧ ∃ n, e 16 = .int .i64 n ∧ redL op r x = redL op (r.drop j) n) id r.length ?_ ?_
        · exact ⟨fr, by simp [g0], by simp, by simp, 0, by omega, by simp, x, by simp, by simp⟩
        · rintro i e X ⟨fX, g0, g59, g60, j, hj, g61, n, g16, hr⟩
          have rcX := rc.fr hw fX
          simp [g60, g61]
          refine WB.bool ?_ ?_
          · intro hlt
            simp at hlt
            have lv := rcX.ld (i := (j : Int)) (by omega) (by omega)
            rw [drop_nthG hlt, redL] at hr
            generalize nth r (j : Int) = y at *
            simp (disch := omega) [g0, g16, g59, g61, rcX.ia, lv]
            refine WC.of (c167 D.d167 fX.wf) ?_
            rintro r2 X2 ⟨f2, rfl⟩
            simp
            by_cases hz : (doR op n y).2.1 = 0
            · rw [if_neg (by simp [hz])] at hr
              simp (disch := omega) [hz, g0, g59, g60, g61, wrap64]
              exact ⟨i - 1, by omega, fX.trans f2, j + 1, by omega, by omega, hr⟩
            · rw [if_pos hz] at hr
              simp [hz, hr]
              exact fX.trans f2
          · intro hlt
            simp at hlt
            rw [List.drop_eq_nil_of_le (by omega), redL] at hr
            simp [g16, hr]
            exact fX

theorem c110 (D : D110 T) {H : AHeap} (hw : WF H) {op : Int} {v : AV} {l : List Int} (hv : Sl encI 1 H v l) : Calls T 110 [.int .i64 op, v] H fun r _ => r = .bool true := by
  refine Calls.fn D.pr D.fn ?_
  have known : ∀ {X : AHeap}, WF X → Calls T 112 [] X fun v _ => v = .bool true := fun h => c112 D.d112 h
  simp [ir110, hv.len]
  refine WB.bool ?_ ?_
  · intro h
    simp
    refine WC.of (known hw) ?_
    rintro v H' rfl
    simp
  · intro h
    simp
    refine WC.of (c143 D.d143 hv) ?_
    rintro r H ⟨rfl, rfl⟩
    simp
    refine WC.of (c144 D.d144 hw hv) ?_
    rintro r H1 ⟨f1, rfl⟩
    simp
    refine WC.of (known f1.wf) ?_
    rintro v H' rfl
    simp

theorem law110 (D : D110 T) {K : AHeap} {as : List AV} (hw : WF K) (hg : Goods K [.int .i64, .slice (.int .i64)] as) : Calls T 110 as K fun v _ => v = .bool true := by
  obtain ⟨a, r, rfl, g1, b, r2, rfl, g2, rfl⟩ := hg
  obtain ⟨n, rfl, _⟩ := g1.int
  obtain ⟨l, hl, hm, _⟩ := g2.ints
  exact c110 D hw hl
end Go.Am
