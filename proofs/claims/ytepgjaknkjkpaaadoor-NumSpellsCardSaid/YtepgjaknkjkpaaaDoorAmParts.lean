/- Contracts: how a list is parted, and shuffled by a row. -/
import Derived.Test.YtepgjaknkjkpaaaDoorAmSlice
set_option linter.unusedVariables false
set_option linter.unusedSimpArgs false
namespace Go.Am
variable {T : Tab}

theorem c122 (D : D122 T) {H : AHeap} {u v : AV} {l m : List (List UInt8)} (hu : Sl encS 1 H u l) (hv : Sl encS 1 H v m) (hl : l.length < 2 ^ 62) : Calls T 122 [u, v] H fun r H' => H' = H ∧ r = .bool (decide (l = m)) := by
  refine Calls.fn D.pr D.fn ?_
  simp [ir122, hu.len, hv.len]
  refine WB.bool ?_ ?_
  · intro h
    simp at h ⊢
    intro e; subst e; simp at h
  · intro h
    simp at h ⊢
    refine W_loop (fun (i : Nat) e H' => H' = H ∧ e 0 = u ∧ e 1 = v ∧ ∃ j : Nat, i + j = l.length ∧ e 5 = .int .i64 j ∧ l.take j = m.take j) id l.length ?_ ?_
    · simp
    · rintro i e H' ⟨rfl, h0, h1, j, hj, h5, ht⟩
      simp [h0, h1, h5, hu.len]
      refine WB.bool ?_ ?_
      · intro h2
        simp at h2
        simp (disch := omega) [h0, h1, h5, hu.ia, hv.ia, hu.ld, hv.ld]
        refine WB.bool ?_ ?_
        · intro h3
          simp at h3 ⊢
          rintro rfl
          exact h3 rfl
        · intro h3
          simp at h3
          simp (disch := omega) [h0, h1, h5, wrap64]
          refine ⟨i - 1, by omega, j + 1, by omega, by omega, ?_⟩
          rw [take_nth (by omega), take_nth (by omega), ht, h3]
      · intro h2
        simp at h2 ⊢
        have e1 : l.length ≤ j := by omega
        rw [List.take_of_length_le (by omega), List.take_of_length_le (by omega)] at ht
        exact ht

theorem c153 (D : D153 T) {H : AHeap} (hw : WF H) {v : AV} {l : List (List UInt8)} (hv : Sl encS 1 H v l) (hl : l.length ≤ 2 ^ 30) : Calls T 153 [v] H fun r H' => Fr H H' ∧ Made encS 1 H.next H' r l := by
  refine Calls.fn D.pr D.fn ?_
  obtain ⟨p, sv, cap, rfl⟩ : ∃ p sv cap, v = .slc p sv l.length cap := by obtain ⟨_, p, sv, cap, e, _⟩ := hv; exact ⟨p, sv, cap, e⟩
  simp [ir153]
  refine WB.bool ?_ ?_
  · intro h
    simp at h
    subst h
    have : l = [] := by obtain ⟨_, p, sv, cap, e, _, h⟩ := hv; cases e; exact h
    subst this
    simp
    exact ⟨.refl hw, .nil⟩
  · intro h
    simp
    have e := hw.own_new (enc := encS) (sz := 1) (l := []) (cs := []) (cap := some 0) (by simp) (by simp) (by simp) (by simp)
    obtain ⟨v', H', q1, q2, q3⟩ := app_made (bytes := 16) hw.fr_new (⟨some H.next, e, by simp⟩ : Made encS 1 H.next (H.new []) _ []) (hv.fr hw hw.fr_new) (by simp) (Cell.all _) (by simp; omega) (by simp; omega)
    simp at q1
    simp [q1]
    exact ⟨q2, q3⟩


def selP (b : Bool) (l : List (List UInt8)) (ys : List Bool) (j : Nat) : List (List UInt8) := ((l.zip ys).take j).filterMap fun p => if p.2 = b then some p.1 else none

theorem selP_succ {b : Bool} {l : List (List UInt8)} {ys : List Bool} {j : Nat} (h1 : j < l.length) (h2 : j < ys.length) : selP b l ys (j + 1) = selP b l ys j ++ (if nth ys (j : Int) = b then [nth l (j : Int)] else []) := by
  have h3 : j < (l.zip ys).length := by simp; omega
  have e1 : nth l (j : Int) = l[j] := by simp [nth, List.getElem?_eq_getElem h1]
  have e2 : nth ys (j : Int) = ys[j] := by simp [nth, List.getElem?_eq_getElem h2]
  unfold selP
  rw [List.take_succ_eq_append_getElem h3, List.filterMap_append, e1, e2]
  congr 1
  by_cases h : ys[j] = b <;> simp [h]

theorem selP_len {b : Bool} {l : List (List UInt8)} {ys : List Bool} {j : Nat} : (selP b l ys j).length ≤ j := by
  unfold selP
  exact Nat.le_trans (List.length_filterMap_le _ _) (by simp; omega)

def partsR (l : List (List UInt8)) (ys : List Bool) : List (List UInt8) × List (List UInt8) × Int :=
  if 200 < l.length ∨ 200 < ys.length then ([], [], 3) else if l.length ≠ ys.length then ([], [], 10) else (selP true l ys l.length, selP false l ys l.length, 0)

theorem c118 (D : D118 T) {H : AHeap} (hw : WF H) {u v : AV} {l : List (List UInt8)} {ys : List Bool} (hu : Sl encS 1 H u l) (hv : Sl encB 1 H v ys) (hl : l.length < 2 ^ 63) (hy : ys.length < 2 ^ 63) :
    Calls T 118 [u, v] H fun r H' => Fr H H' ∧ ∃ a b, r = .tup [a, b, .int .i64 (partsR l ys).2.2] ∧ Made encS 1 H.next H' a (partsR l ys).1 ∧ Made encS 1 H.next H' b (partsR l ys).2.1 := by
  refine Calls.fn D.pr D.fn ?_
  by_cases h1 : 200 < l.length
  · simp [ir118, hu.len, hv.len, partsR, h1, show (200 : Int) < l.length by omega]
    exact ⟨.refl hw, _, _, ⟨rfl, rfl⟩, .nil, .nil⟩
  by_cases h2 : 200 < ys.length
  · simp [ir118, hu.len, hv.len, partsR, h1, h2, show ¬ (200 : Int) < l.length by omega, show (200 : Int) < ys.length by omega]
    exact ⟨.refl hw, _, _, ⟨rfl, rfl⟩, .nil, .nil⟩
  by_cases h3 : l.length = ys.length
  · have e : partsR l ys = (selP true l ys l.length, selP false l ys l.length, 0) := by simp only [partsR]; rw [if_neg (by omega), if_neg (by omega)]
    rw [e]
    simp [ir118, hu.len, hv.len, show ¬ (200 : Int) < l.length by omega, show ¬ (200 : Int) < ys.length by omega, show ((l.length : Int) = ys.length) by omega]
    refine W_loop (fun (i : Nat) e K => Fr H K ∧ e 0 = u ∧ e 1 = v ∧ ∃ j : Nat, i + j = l.length ∧ e 9 = .int .i64 j ∧ ∃ a b, e 7 = a ∧ e 8 = b ∧ Two encS H.next K a (selP true l ys j) b (selP false l ys j)) id l.length ?_ ?_
    · exact ⟨.refl hw, by simp, by simp, 0, by simp, by simp, _, _, by simp, by simp, .nil⟩
    · rintro i e K ⟨fr, h0, h1', j, hj, h9, a, b, h7, h8, two⟩
      have hu' := hu.fr hw fr
      have hv' := hv.fr hw fr
      simp [h0, h9, hu'.len]
      refine WB.bool ?_ ?_
      · intro hlt
        simp at hlt
        have lu := hu'.ld (i := (j : Int)) (by omega) (by omega)
        have lv := hv'.ld (i := (j : Int)) (by omega) (by omega)
        have sl1 := selP_len (b := true) (l := l) (ys := ys) (j := j)
        have sl2 := selP_len (b := false) (l := l) (ys := ys) (j := j)
        have es := fun b => selP_succ (b := b) (l := l) (ys := ys) (j := j) (by omega) (by omega)
        simp (disch := omega) [h0, h1', h9, hv'.ia, lv]
        cases hb : nth ys (j : Int) with
        | true =>
          rw [hb] at es
          obtain ⟨v', K', q1, q2, q3, q4⟩ := two.push (bytes := 16) fr.wf fr.next (nth l (j : Int)) (by omega) (by omega)
          simp (disch := omega) [h0, h1', h7, h9, hu'.ia, lu, wsem0_bsl1 (v := encS (nth l (j : Int))) rfl, q1, wrap64]
          refine ⟨i - 1, by omega, fr.step q2 q3 (fun g h => h), j + 1, by omega, by simp, ?_⟩
          rw [es, es, h8]; simpa using q4
        | false =>
          rw [hb] at es
          obtain ⟨v', K', q1, q2, q3, q4⟩ := two.symm.push (bytes := 16) fr.wf fr.next (nth l (j : Int)) (by omega) (by omega)
          simp (disch := omega) [h0, h1', h8, h9, hu'.ia, lu, wsem0_bsl1 (v := encS (nth l (j : Int))) rfl, q1, wrap64]
          refine ⟨i - 1, by omega, fr.step q2 q3 (fun g h => h), j + 1, by omega, by simp, ?_⟩
          rw [es, es, h7]; simpa using q4.symm
      · intro hlt
        simp at hlt
        have : j = l.length := by omega
        subst this
        simp [h7, h8]
        exact ⟨fr, _, _, ⟨rfl, rfl⟩, two.left, two.symm.left⟩
  · have e : partsR l ys = ([], [], 10) := by simp only [partsR]; rw [if_neg (by omega), if_pos h3]
    rw [e]
    simp [ir118, hu.len, hv.len, show ¬ (200 : Int) < l.length by omega, show ¬ (200 : Int) < ys.length by omega, show ¬ ((l.length : Int) = ys.length) by omega]
    exact ⟨.refl hw, _, _, ⟨rfl, rfl⟩, .nil, .nil⟩
theorem c120 (D : D120 T) {H : AHeap} (hw : WF H) {u v : AV} {l : List (List UInt8)} {ys : List Bool} (hu : Sl encS 1 H u l) (hv : Sl encB 1 H v ys) (hl : l.length < 2 ^ 63) (hy : ys.length < 2 ^ 63) :
    Calls T 120 [u, v] H fun r H' => Fr H H' ∧ ∃ a b, r = .tup [a, b, .int .i64 (partsR l ys).2.2] ∧ Made encS 1 H.next H' a (partsR l ys).1 ∧ Made encS 1 H.next H' b (partsR l ys).2.1 := by
  refine Calls.fn D.pr D.fn ?_
  by_cases h1 : 200 < l.length
  · simp [ir120, hu.len, hv.len, partsR, h1, show (200 : Int) < l.length by omega]
    exact ⟨.refl hw, _, _, ⟨rfl, rfl⟩, .nil, .nil⟩
  by_cases h2 : 200 < ys.length
  · simp [ir120, hu.len, hv.len, partsR, h1, h2, show ¬ (200 : Int) < l.length by omega, show (200 : Int) < ys.length by omega]
    exact ⟨.refl hw, _, _, ⟨rfl, rfl⟩, .nil, .nil⟩
  by_cases h3 : l.length = ys.length
  · have e : partsR l ys = (selP true l ys l.length, selP false l ys l.length, 0) := by simp only [partsR]; rw [if_neg (by omega), if_neg (by omega)]
    rw [e]
    simp [ir120, hu.len, hv.len, show ¬ (200 : Int) < l.length by omega, show ¬ (200 : Int) < ys.length by omega, show ((l.length : Int) = ys.length) by omega]
    refine W_loop (fun (i : Nat) e K => Fr H K ∧ e 24 = u ∧ e 25 = .int .i64 l.length ∧ e 1 = v ∧ ∃ j : Nat, i + j = l.length ∧ e 26 = .int .i64 j ∧ ∃ a b, e 7 = a ∧ e 8 = b ∧ Two encS H.next K a (selP true l ys j) b (selP false l ys j)) id l.length ?_ ?_
    · exact ⟨.refl hw, by simp, by simp; omega, by simp, 0, by simp, by simp, _, _, by simp, by simp, .nil⟩
    · rintro i e K ⟨fr, h0, h25, h1', j, hj, h9, a, b, h7, h8, two⟩
      have hu' := hu.fr hw fr
      have hv' := hv.fr hw fr
      simp [h25, h9]
      refine WB.bool ?_ ?_
      · intro hlt
        simp at hlt
        have lu := hu'.ld (i := (j : Int)) (by omega) (by omega)
        have lv := hv'.ld (i := (j : Int)) (by omega) (by omega)
        have sl1 := selP_len (b := true) (l := l) (ys := ys) (j := j)
        have sl2 := selP_len (b := false) (l := l) (ys := ys) (j := j)
        have es := fun b => selP_succ (b := b) (l := l) (ys := ys) (j := j) (by omega) (by omega)
        simp (disch := omega) [h0, h1', h9, hu'.ia, lu, hv'.ia, lv]
        cases hb : nth ys (j : Int) with
        | true =>
          rw [hb] at es
          obtain ⟨v', K', q1, q2, q3, q4⟩ := two.push (bytes := 16) fr.wf fr.next (nth l (j : Int)) (by omega) (by omega)
          simp (disch := omega) [h0, h25, h1', h7, h9, hu'.ia, lu, wsem0_bsl1 (v := encS (nth l (j : Int))) rfl, q1, wrap64]
          refine ⟨i - 1, by omega, fr.step q2 q3 (fun g h => h), j + 1, by omega, by simp, ?_⟩
          rw [es, es, h8]; simpa using q4
        | false =>
          rw [hb] at es
          obtain ⟨v', K', q1, q2, q3, q4⟩ := two.symm.push (bytes := 16) fr.wf fr.next (nth l (j : Int)) (by omega) (by omega)
          simp (disch := omega) [h0, h25, h1', h8, h9, hu'.ia, lu, wsem0_bsl1 (v := encS (nth l (j : Int))) rfl, q1, wrap64]
          refine ⟨i - 1, by omega, fr.step q2 q3 (fun g h => h), j + 1, by omega, by simp, ?_⟩
          rw [es, es, h7]; simpa using q4.symm
      · intro hlt
        simp at hlt
        have : j = l.length := by omega
        subst this
        simp [h7, h8]
        exact ⟨fr, _, _, ⟨rfl, rfl⟩, two.left, two.symm.left⟩
  · have e : partsR l ys = ([], [], 10) := by simp only [partsR]; rw [if_neg (by omega), if_pos h3]
    rw [e]
    simp [ir120, hu.len, hv.len, show ¬ (200 : Int) < l.length by omega, show ¬ (200 : Int) < ys.length by omega, show ¬ ((l.length : Int) = ys.length) by omega]
    exact ⟨.refl hw, _, _, ⟨rfl, rfl⟩, .nil, .nil⟩

theorem c152 (D : D152 T) {H : AHeap} {x : Int} : Calls T 152 [.int .i64 x] H fun v H' => H' = H ∧ v = .bool (decide (x < 0)) := by
  refine Calls.fn D.pr D.fn ?_
  simp [ir152]

theorem c174 (D : D174 T) (D' : D152 T) {H : AHeap} {v : AV} {l : List Int} (hv : Sl encI 1 H v l) (hl : l.length < 2 ^ 62) : Calls T 174 [v, .fn 152 [] []] H fun r H' => H' = H ∧ ∃ n, r = .int .i64 n ∧ (0 ≤ n ↔ ∃ x ∈ l, x < 0) := by
  refine Calls.fn D.pr D.fn ?_
  simp [ir174, hv.len]
  refine W_loop (fun (i : Nat) e H' => H' = H ∧ e 0 = v ∧ e 1 = .fn 152 [] [] ∧ e 7 = .int .i64 l.length ∧ ∃ j : Nat, i + j = l.length ∧ e 8 = .int .i64 j ∧ ∀ x ∈ l.take j, ¬ x < 0) id l.length ?_ ?_
  · simp
  · rintro i e H' ⟨rfl, h0, h1, h7, j, hj, h8, hn⟩
    simp [h7, h8]
    refine WB.bool ?_ ?_
    · intro hlt
      simp at hlt
      have lv := hv.ld (i := (j : Int)) (by omega) (by omega)
      simp (disch := omega) [h0, h1, h7, h8, hv.ia, lv]
      refine WC.of (c152 D') ?_
      rintro r H2 ⟨rfl, rfl⟩
      simp
      have ej : nth l (j : Int) = l[j] := by simp [nth, List.getElem?_eq_getElem hlt]
      refine WB.bool ?_ ?_
      · intro h
        simp at h
        simp
        exact ⟨nth l (j : Int), by rw [ej]; exact List.getElem_mem _, h⟩
      · intro h
        simp at h
        simp (disch := omega) [h0, h1, h7, h8, wrap64]
        refine ⟨i - 1, by omega, j + 1, by omega, by omega, ?_⟩
        rw [take_nth hlt]
        intro x hx
        rcases List.mem_append.1 hx with hx | hx
        · have := hn x hx; omega
        · simp at hx; omega
    · intro hlt
      simp at hlt
      simp
      intro x hx
      have := hn x (by rw [List.take_of_length_le (by omega)]; exact hx)
      omega

theorem c151 (D : D151 T) (D' : D152 T) {H : AHeap} {v : AV} {l : List Int} (hv : Sl encI 1 H v l) (hl : l.length < 2 ^ 62) : Calls T 151 [v, .fn 152 [] []] H fun r H' => H' = H ∧ r = .bool (decide (∃ x ∈ l, x < 0)) := by
  refine Calls.fn D.pr D.fn ?_
  simp [ir151]
  refine WC.of (c174 D.d174 D' hv hl) ?_
  rintro r H' ⟨rfl, n, rfl, hn⟩
  simp [hn]

/-- Exchanging by a row: c places are left, n numbers are used. -/
def shuf (by_ : List Int) : Nat → Nat → List (List UInt8) → List (List UInt8)
  | 0, _, o => o
  | 1, _, o => o
  | c + 2, n, o =>
    let k := if n < by_.length then (nth by_ (n : Int)).tmod (c + 2 : Nat) else 0
    shuf by_ (c + 1) (n + 1) ((o.set (c + 1) (nth o k)).set k.toNat (nth o ((c + 1 : Nat) : Int)))
def shufR (l : List (List UInt8)) (by_ : List Int) : List (List UInt8) × Int :=
  if 200 < l.length then ([], 3) else if ∃ x ∈ by_, x < 0 then ([], 1) else (shuf by_ l.length 0 l, 0)

theorem shuf_short {by_ : List Int} {c n : Nat} {o : List (List UInt8)} (h : c < 2) : shuf by_ c n o = o := by
  match c, h with
  | 0, _ => rfl
  | 1, _ => rfl

theorem shuf_len {by_ : List Int} : ∀ (c n : Nat) (o : List (List UInt8)), (shuf by_ c n o).length = o.length
  | 0, _, _ => rfl
  | 1, _, _ => rfl
  | c + 2, n, o => by
    rw [shuf, shuf_len (c + 1)]
    simp
theorem shufR_len {l : List (List UInt8)} {by_ : List Int} : (shufR l by_).1.length ≤ 200 := by
  unfold shufR
  split
  · simp
  · split
    · simp
    · rw [shuf_len]; omega

theorem c119 (D : D119 T) {H : AHeap} (hw : WF H) {u v : AV} {l : List (List UInt8)} {bs : List Int} (hu : Sl encS 1 H u l) (hv : Sl encI 1 H v bs) (hl : l.length < 2 ^ 63) (hb : bs.length < 2 ^ 62) (hwf : ∀ p ∈ bs, -9223372036854775808 ≤ p ∧ p < 9223372036854775808) :
    Calls T 119 [u, v] H fun r H' => Fr H H' ∧ ∃ a, r = .tup [a, .int .i64 (shufR l bs).2] ∧ Made encS 1 H.next H' a (shufR l bs).1 := by
  refine Calls.fn D.pr D.fn ?_
  by_cases h1 : 200 < l.length
  · simp [ir119, hu.len, hv.len, shufR, h1, show (200 : Int) < l.length by omega]
    exact ⟨.refl hw, .nil⟩
  simp [ir119, hu.len, show ¬ (200 : Int) < l.length by omega]
  refine W_loop (fun (i : Nat) e K => K = H ∧ e 0 = u ∧ e 1 = v ∧ ∃ j : Nat, i + j = bs.length ∧ e 6 = .int .i64 j ∧ ∀ x ∈ bs.take j, ¬ x < 0) id bs.length ?_ ?_
  · simp
  · rintro i e H' ⟨rfl, h0, h1', j, hj, h6, hn⟩
    simp [h1', h6, hv.len]
    refine WB.bool ?_ ?_
    · intro hlt
      simp at hlt
      have lv := hv.ld (i := (j : Int)) (by omega) (by omega)
      have ej : nth bs (j : Int) = bs[j] := by simp [nth, List.getElem?_eq_getElem hlt]
      simp (disch := omega) [h0, h1', h6, hv.ia, lv]
      refine WB.bool ?_ ?_
      · intro h
        simp at h
        have e1 : shufR l bs = ([], 1) := by unfold shufR; rw [if_neg h1, if_pos ⟨_, by rw [ej]; exact List.getElem_mem _, h⟩]
        rw [e1]
        simp
        exact ⟨.refl hw, .nil⟩
      · intro h
        simp at h
        simp (disch := omega) [h0, h1', h6, wrap64]
        refine ⟨i - 1, by omega, j + 1, by omega, by omega, ?_⟩
        rw [take_nth hlt]
        intro x hx
        rcases List.mem_append.1 hx with hx | hx
        · have := hn x hx; omega
        · simp at hx; omega
    · intro hlt
      simp at hlt
      rw [List.take_of_length_le (by omega)] at hn
      have e1 : shufR l bs = (shuf bs l.length 0 l, 0) := by unfold shufR; rw [if_neg h1, if_neg (by rintro ⟨x, hx, hx2⟩; exact hn x hx hx2)]
      rw [e1]
      obtain ⟨ov, K, q1, q2, q3⟩ := app_made (bytes := 16) (.refl hw) (.nil : Made encS 1 H'.next H' (.slc none 0 0 none) []) hu (by simp) (Cell.all _) (by simp; omega) (by simp; omega)
      simp at q3
      simp (disch := omega) [h0, q1, hu.len, (hu.fr hw q2).len, wrap64]
      refine W_loop (fun (c : Nat) e X => Fr H' X ∧ e 0 = u ∧ e 1 = v ∧ e 8 = .int .i64 ((c : Int) - 1) ∧ c ≤ l.length ∧ ∃ ov lo, e 7 = ov ∧ lo.length = l.length ∧ Made encS 1 H'.next X ov lo ∧ shuf bs l.length 0 l = shuf bs c (l.length - c) lo) id l.length ?_ ?_
      · exact ⟨q2, by simp [h0], by simp [h1'], by simp, Nat.le_refl _, ov, l, by simp, rfl, q3, by simp⟩
      · rintro c e X ⟨fr, h0, h1', h8, hc, ov, lo, h7, hlo, mo, hs⟩
        have hu' := hu.fr hw fr
        have hv' := hv.fr hw fr
        by_cases hc2 : 2 ≤ c
        · obtain ⟨c, rfl⟩ : ∃ d, c = d + 2 := ⟨c - 2, by omega⟩
          have h8 : e 8 = .int .i64 ((c : Int) + 1) := by rw [h8]; congr 1; omega
          have swap : ∀ K : Int, 0 ≤ K → K < c + 2 → ∃ X1 X2, wsem0 (.st 1) [elt ov 1 ((c : Int) + 1), encS (nth lo K)] X = some (.undef, X1) ∧ wsem0 (.st 1) [elt ov 1 K, encS (nth lo ((c : Int) + 1))] X1 = some (.undef, X2) ∧ Fr H' X2 ∧
              Made encS 1 H'.next X2 ov ((lo.set (c + 1) (nth lo K)).set K.toNat (nth lo ((c + 1 : Nat) : Int))) := by
            intro K k0 k1
            obtain ⟨X1, a1, a2, a3, a4, a5⟩ := mo.st fr.wf (i := (c : Int) + 1) (by omega) (by omega) (nth lo K)
            obtain ⟨X2, b1, b2, b3, b4, b5⟩ := a4.st a2 (i := K) k0 (by rw [List.length_set]; omega) (nth lo ((c : Int) + 1))
            refine ⟨X1, X2, a1, b1, (fr.step a2 a3 fun g h => h).step b2 b3 fun g h => h, ?_⟩
            have e1 : ((c : Int) + 1).toNat = c + 1 := by omega
            rw [e1] at b4
            simpa using b4
          have en : (l.length : Int) - 1 - ((c : Int) + 1) = ((l.length - (c + 2) : Nat) : Int) := by omega
          have li := mo.sl.ld (i := (c : Int) + 1) (by omega) (by omega)
          have hz : ¬ ((c : Int) + 1 + 1 = 0) := by omega
          have next : l.length - (c + 2) + 1 = l.length - (c + 1) := by omega
          by_cases hk : l.length - (c + 2) < bs.length
          · have lb := hv'.ld (i := ((l.length - (c + 2) : Nat) : Int)) (by omega) (by omega)
            have ej : nth bs ((l.length - (c + 2) : Nat) : Int) = bs[l.length - (c + 2)] := by simp [nth, List.getElem?_eq_getElem hk]
            have hb0 : 0 ≤ nth bs ((l.length - (c + 2) : Nat) : Int) := by rw [ej]; have := hn _ (List.getElem_mem hk); omega
            have k0 := Int.tmod_nonneg ((c : Int) + 1 + 1) hb0
            have k1 := Int.tmod_lt_of_pos (nth bs ((l.length - (c + 2) : Nat) : Int)) (show (0 : Int) < (c : Int) + 1 + 1 by omega)
            have es : shuf bs (c + 2) (l.length - (c + 2)) lo = shuf bs (c + 1) (l.length - (c + 1)) ((lo.set (c + 1) (nth lo ((nth bs ((l.length - (c + 2) : Nat) : Int)).tmod ((c : Int) + 1 + 1)))).set ((nth bs ((l.length - (c + 2) : Nat) : Int)).tmod ((c : Int) + 1 + 1)).toNat (nth lo ((c + 1 : Nat) : Int))) := by
              rw [shuf, if_pos hk, next]; rfl
            have hkI : ((l.length - (c + 2) : Nat) : Int) < bs.length := by omega
            have lia : psem (.ia 1) [v, .int .i64 ((l.length - (c + 2) : Nat) : Int)] = some (elt v 1 ((l.length - (c + 2) : Nat) : Int)) := hv'.ia (by omega) (by omega)
            rw [es] at hs
            generalize ((l.length - (c + 2) : Nat) : Int) = N at *
            obtain ⟨K, hK⟩ : ∃ K, (nth bs N).tmod ((c : Int) + 1 + 1) = K := ⟨_, rfl⟩
            rw [hK] at k0 k1 hs
            have lk := mo.sl.ld (i := K) k0 (by omega)
            obtain ⟨X1, X2, s1, s2, s3, s4⟩ := swap K k0 (by omega)
            simp (disch := omega) [h0, h1', h7, h8, show (0 : Int) < (c : Int) + 1 by omega, hu'.len, hv'.len, en, hkI, lia, lb, hz, hK, wrap64, mo.sl.ia, lk, li, s1, s2]
            exact ⟨c + 1, by omega, s3, by omega, by omega, _, by rw [List.length_set, List.length_set]; exact hlo, s4, hs⟩
          · have es : shuf bs (c + 2) (l.length - (c + 2)) lo = shuf bs (c + 1) (l.length - (c + 1)) ((lo.set (c + 1) (nth lo 0)).set (0 : Int).toNat (nth lo ((c + 1 : Nat) : Int))) := by
              rw [shuf, if_neg hk, next]
            rw [es] at hs
            have hkI : ¬ ((l.length - (c + 2) : Nat) : Int) < bs.length := by omega
            generalize ((l.length - (c + 2) : Nat) : Int) = N at *
            have lk := mo.sl.ld (i := 0) (by omega) (by omega)
            obtain ⟨X1, X2, s1, s2, s3, s4⟩ := swap 0 (by omega) (by omega)
            simp (disch := omega) [h0, h1', h7, h8, show (0 : Int) < (c : Int) + 1 by omega, hu'.len, hv'.len, en, hkI, wrap64, mo.sl.ia, lk, li, s1, s2]
            exact ⟨c + 1, by omega, s3, by omega, by omega, _, by rw [List.length_set, List.length_set]; exact hlo, s4, hs⟩
        · simp [h8, show ¬ (1 : Int) < c by omega]
          simp [h7]
          refine ⟨fr, ?_⟩
          rw [hs, shuf_short (by omega)]
          exact mo

theorem c121 (D : D121 T) {H : AHeap} (hw : WF H) {u v : AV} {l : List (List UInt8)} {bs : List Int} (hu : Sl encS 1 H u l) (hv : Sl encI 1 H v bs) (hl : l.length < 2 ^ 63) (hb : bs.length < 2 ^ 62) :
    Calls T 121 [u, v] H fun r H' => Fr H H' ∧ ∃ a, r = .tup [a, .int .i64 (shufR l bs).2] ∧ Made encS 1 H.next H' a (shufR l bs).1 := by
  refine Calls.fn D.pr D.fn ?_
  simp [ir121, hu.len]
  refine WC.of (c148 D.d148) ?_
  rintro r H' ⟨rfl, rfl⟩
  by_cases h1 : 200 < l.length
  · simp [shufR, h1, show (200 : Int) < l.length by omega]
    exact ⟨.refl hw, .nil⟩
  simp [show ¬ (200 : Int) < l.length by omega]
  refine WC.of (c151 D.d151 D.d152 hv hb) ?_
  rintro r H2 ⟨rfl, rfl⟩
  by_cases hx : ∃ x ∈ bs, x < 0
  · have e1 : shufR l bs = ([], 1) := by unfold shufR; rw [if_neg h1, if_pos hx]
    rw [e1]
    simp [show decide (∃ x ∈ bs, x < 0) = true by simpa using hx]
    exact ⟨.refl hw, .nil⟩
  have e1 : shufR l bs = (shuf bs l.length 0 l, 0) := by unfold shufR; rw [if_neg h1, if_neg hx]
  rw [e1]
  have hn : ∀ x ∈ bs, ¬ x < 0 := fun x h1 h2 => hx ⟨x, h1, h2⟩
  simp [show decide (∃ x ∈ bs, x < 0) = false by simpa using hx]
  refine WC.of (c153 D.d153 hw hu (by omega)) ?_
  rintro ov H3 ⟨q2, q3⟩
  simp (disch := omega) [q3.sl.len, wrap64]
  refine W_loop (fun (c : Nat) e X => Fr H2 X ∧ e 8 = .int .i64 ((c : Int) - 1) ∧ c ≤ l.length ∧ (∃ rv, e 1 = rv ∧ Sl encI 1 H2 rv (bs.drop (l.length - c))) ∧ ∃ ov lo, e 7 = ov ∧ lo.length = l.length ∧ Made encS 1 H2.next X ov lo ∧ shuf bs l.length 0 l = shuf bs c (l.length - c) lo) id l.length ?_ ?_
  · exact ⟨q2, by simp, Nat.le_refl _, ⟨v, by simp, by simpa using hv⟩, ov, l, by simp, rfl, q3, by simp⟩
  · rintro c e X ⟨fr, h8, hc, ⟨rv, h1', hrv⟩, ov, lo, h7, hlo, mo, hs⟩
    by_cases hc2 : 2 ≤ c
    · obtain ⟨c, rfl⟩ : ∃ d, c = d + 2 := ⟨c - 2, by omega⟩
      have h8 : e 8 = .int .i64 ((c : Int) + 1) := by rw [h8]; congr 1; omega
      have hrv' := hrv.fr hw fr
      have swap : ∀ K : Int, 0 ≤ K → K < c + 2 → ∃ X1 X2, wsem0 (.st 1) [elt ov 1 ((c : Int) + 1), encS (nth lo K)] X = some (.undef, X1) ∧ wsem0 (.st 1) [elt ov 1 K, encS (nth lo ((c : Int) + 1))] X1 = some (.undef, X2) ∧ Fr H2 X2 ∧
          Made encS 1 H2.next X2 ov ((lo.set (c + 1) (nth lo K)).set K.toNat (nth lo ((c + 1 : Nat) : Int))) := by
        intro K k0 k1
        obtain ⟨X1, a1, a2, a3, a4, a5⟩ := mo.st fr.wf (i := (c : Int) + 1) (by omega) (by omega) (nth lo K)
        obtain ⟨X2, b1, b2, b3, b4, b5⟩ := a4.st a2 (i := K) k0 (by rw [List.length_set]; omega) (nth lo ((c : Int) + 1))
        refine ⟨X1, X2, a1, b1, (fr.step a2 a3 fun g h => h).step b2 b3 fun g h => h, ?_⟩
        have e1 : ((c : Int) + 1).toNat = c + 1 := by omega
        rw [e1] at b4
        simpa using b4
      have li := mo.sl.ld (i := (c : Int) + 1) (by omega) (by omega)
      have hz : ¬ ((c : Int) + 1 + 1 = 0) := by omega
      have next : l.length - (c + 2) + 1 = l.length - (c + 1) := by omega
      by_cases hk : l.length - (c + 2) < bs.length
      · have ed := List.drop_eq_getElem_cons hk
        rw [next] at ed
        have ej : nth bs ((l.length - (c + 2) : Nat) : Int) = bs[l.length - (c + 2)] := by simp [nth, List.getElem?_eq_getElem hk]
        rw [ed] at hrv hrv'
        obtain ⟨rv2, _, cr, _, hrv2, _⟩ := hrv.cut 1 _ (by simp) (Nat.le_refl _)
        simp only [List.take_length, List.drop_succ_cons, List.drop_zero] at hrv2
        have cr := fun k => cr k rfl
        simp only [Int.ofNat_eq_natCast, Int.natCast_one] at cr
        have lb := hrv'.ld (i := 0) (by omega) (by simp)
        rw [nth_cons, ← ej] at lb
        have lia : psem (.ia 1) [rv, .int .i64 0] = some (elt rv 1 0) := hrv'.ia (by omega) (by simp)
        have hb0 : 0 ≤ nth bs ((l.length - (c + 2) : Nat) : Int) := by rw [ej]; have := hn _ (List.getElem_mem hk); omega
        have k0 := Int.tmod_nonneg ((c : Int) + 1 + 1) hb0
        have k1 := Int.tmod_lt_of_pos (nth bs ((l.length - (c + 2) : Nat) : Int)) (show (0 : Int) < (c : Int) + 1 + 1 by omega)
        have es : shuf bs (c + 2) (l.length - (c + 2)) lo = shuf bs (c + 1) (l.length - (c + 1)) ((lo.set (c + 1) (nth lo ((nth bs ((l.length - (c + 2) : Nat) : Int)).tmod ((c : Int) + 1 + 1)))).set ((nth bs ((l.length - (c + 2) : Nat) : Int)).tmod ((c : Int) + 1 + 1)).toNat (nth lo ((c + 1 : Nat) : Int))) := by
          rw [shuf, if_pos hk, next]; rfl
        rw [es] at hs
        obtain ⟨K, hK⟩ : ∃ K, (nth bs ((l.length - (c + 2) : Nat) : Int)).tmod ((c : Int) + 1 + 1) = K := ⟨_, rfl⟩
        rw [hK] at k0 k1 hs
        have lk := mo.sl.ld (i := K) k0 (by omega)
        obtain ⟨X1, X2, s1, s2, s3, s4⟩ := swap K k0 (by omega)
        have hpos : 0 < (bs[l.length - (c + 2)] :: bs.drop (l.length - (c + 1))).length := by simp
        have hlen := hrv'.len
        generalize bs[l.length - (c + 2)] :: bs.drop (l.length - (c + 1)) = L at hrv hrv' hpos hlen
        simp (disch := omega) [h1', h7, h8, show (0 : Int) < (c : Int) + 1 by omega, hlen, hpos, lia, lb, hz, hK, wrap64, cr, mo.sl.ia, lk, li, s1, s2]
        exact ⟨c + 1, by omega, s3, by omega, by omega, hrv2, _, by rw [List.length_set, List.length_set]; exact hlo, s4, hs⟩
      · have es : shuf bs (c + 2) (l.length - (c + 2)) lo = shuf bs (c + 1) (l.length - (c + 1)) ((lo.set (c + 1) (nth lo 0)).set (0 : Int).toNat (nth lo ((c + 1 : Nat) : Int))) := by
          rw [shuf, if_neg hk, next]
        rw [es] at hs
        rw [List.drop_eq_nil_of_le (by omega)] at hrv hrv'
        have hlen := hrv'.len
        simp at hlen
        have lk := mo.sl.ld (i := 0) (by omega) (by omega)
        obtain ⟨X1, X2, s1, s2, s3, s4⟩ := swap 0 (by omega) (by omega)
        have hd : bs.drop (l.length - (c + 1)) = [] := List.drop_eq_nil_of_le (by omega)
        simp (disch := omega) [h1', h7, h8, show (0 : Int) < (c : Int) + 1 by omega, hlen, wrap64, mo.sl.ia, lk, li, s1, s2]
        exact ⟨c + 1, by omega, s3, by omega, by omega, by rw [hd]; exact hrv, _, by rw [List.length_set, List.length_set]; exact hlo, s4, hs⟩
    · simp [h8, show ¬ (1 : Int) < c by omega]
      simp [h7]
      refine ⟨fr, ?_⟩
      rw [hs, shuf_short (by omega)]
      exact mo

theorem c105 (D : D105 T) {H : AHeap} (hw : WF H) {u v w : AV} {l : List (List UInt8)} {ys : List Bool} {bs : List Int} (hu : Sl encS 1 H u l) (hv : Sl encB 1 H v ys) (hr : Sl encI 1 H w bs) (hl : l.length < 2 ^ 63) (hy : ys.length < 2 ^ 63) (hb : bs.length < 2 ^ 63)
    (hwf : ∀ p ∈ bs, -9223372036854775808 ≤ p ∧ p < 9223372036854775808) : Calls T 105 [u, v, w] H fun r _ => r = .bool true := by
  refine Calls.fn D.pr D.fn ?_
  simp [ir105]
  refine WC.of (c114 D.d114 hu hl) ?_
  rintro r H' ⟨rfl, b, rfl⟩
  have known : ∀ {X : AHeap}, WF X → Calls T 112 [] X fun v _ => v = .bool true := fun h => c112 D.d112 h
  by_cases hg : b = false ∧ ys.length ≤ 8000 ∧ bs.length ≤ 8000
  · obtain ⟨rfl, h1, h2⟩ := hg
    simp [hv.len, hr.len, show ¬ (8000 : Int) < ys.length by omega, show ¬ (8000 : Int) < bs.length by omega]
    refine WC.of (c118 D.d118 hw hu hv hl hy) ?_
    rintro r H1 ⟨f1, a1, b1, rfl, m1, m2⟩
    simp
    refine WC.of (c119 D.d119 f1.wf (hu.fr hw f1) (hr.fr hw f1) hl (by omega) hwf) ?_
    rintro r H2 ⟨f2, a2, rfl, m3⟩
    have f12 := f1.trans f2
    simp
    refine WC.of (c120 D.d120 f2.wf (hu.fr hw f12) (hv.fr hw f12) hl hy) ?_
    rintro r H3 ⟨f3, a3, b3, rfl, m4, m5⟩
    have f13 := f12.trans f3
    simp
    refine WC.of (c121 D.d121 f3.wf (hu.fr hw f13) (hr.fr hw f13) hl (by omega)) ?_
    rintro r H4 ⟨f4, a4, rfl, m6⟩
    have f24 := (f2.trans f3).trans f4
    have lp1 : (partsR l ys).1.length < 2 ^ 62 := by
      have := selP_len (b := true) (l := l) (ys := ys) (j := l.length)
      unfold partsR; split
      · simp
      · split
        · simp
        · simp only; omega
    have lp2 : (partsR l ys).2.1.length < 2 ^ 62 := by
      have := selP_len (b := false) (l := l) (ys := ys) (j := l.length)
      unfold partsR; split
      · simp
      · split
        · simp
        · simp only; omega
    simp
    refine WC.of (c122 D.d122 (m4.sl.fr f3.wf f4) (m1.sl.fr f1.wf f24) lp1) ?_
    rintro r H5 ⟨rfl, rfl⟩
    simp
    refine WC.of (c122 D.d122 (m5.sl.fr f3.wf f4) (m2.sl.fr f1.wf f24) lp2) ?_
    rintro r H5 ⟨rfl, rfl⟩
    simp
    refine WC.of (c122 D.d122 m6.sl (m3.sl.fr f2.wf (f3.trans f4)) (by have := shufR_len (l := l) (by_ := bs); omega)) ?_
    rintro r H5 ⟨rfl, rfl⟩
    simp
    refine WC.of (known f4.wf) ?_
    rintro v H' rfl
    simp
  · have fin : ∀ {e : Env}, True := trivial
    cases b with
    | true =>
      simp
      refine WC.of (known hw) ?_
      rintro v H' rfl
      simp
    | false =>
      by_cases h1 : (8000 : Int) < ys.length
      · simp [hv.len, h1]
        refine WC.of (known hw) ?_
        rintro v H' rfl
        simp
      · have h2 : (8000 : Int) < bs.length := by
          rcases Nat.lt_or_ge 8000 bs.length with h | h
          · omega
          · exact absurd ⟨rfl, by omega, h⟩ hg
        simp [hv.len, hr.len, h1, h2]
        refine WC.of (known hw) ?_
        rintro v H' rfl
        simp

theorem law105 (D : D105 T) {K : AHeap} {as : List AV} (hw : WF K) (hg : Goods K [.slice .str, .slice .bool, .slice (.int .i64)] as) : Calls T 105 as K fun v _ => v = .bool true := by
  obtain ⟨a, r, rfl, g1, b, r2, rfl, g2, c, r3, rfl, g3, rfl⟩ := hg
  obtain ⟨l, hl, hm, _⟩ := g1.strs
  obtain ⟨ys, hy, hm2⟩ := g2.bools
  obtain ⟨m, hv, hm3, hwf⟩ := g3.ints
  have e : maxLen = 2 ^ 63 - 1 := rfl
  exact c105 D hw hl hy hv (by omega) (by omega) (by omega) fun p hp => wf64 (hwf p hp)
end Go.Am
