/- Contracts: how often each text was there, the union of two lists, and the law of them. -/
import Derived.Test.YtepgjaknkjkpaaaDoorAmUniq
set_option linter.unusedVariables false
set_option linter.unusedSimpArgs false
namespace Go.Am
variable {T : Tab}

abbrev cnt (l : List (List UInt8)) (s : List UInt8) : Int := ((l.count s : Nat) : Int)

theorem mem_uq_fold (s : List UInt8) : ∀ (l o : List (List UInt8)), s ∈ l.foldl (fun o s => if s ∈ o then o else o ++ [s]) o ↔ s ∈ o ∨ s ∈ l
  | [], o => by simp
  | x :: l, o => by
    rw [List.foldl_cons, mem_uq_fold s l]
    by_cases h : x ∈ o
    · simp only [h, if_true, List.mem_cons]
      constructor
      · rintro (h1 | h1)
        · exact .inl h1
        · exact .inr (.inr h1)
      · rintro (h1 | h1 | h1)
        · exact .inl h1
        · subst h1; exact .inl h
        · exact .inr h1
    · rw [if_neg h, List.mem_append, List.mem_cons (a := s) (b := x) (l := l), List.mem_singleton, or_assoc]
theorem mem_uq (s : List UInt8) (l : List (List UInt8)) : s ∈ uq l ↔ s ∈ l := by
  unfold uq; rw [mem_uq_fold]; simp

theorem cnt_old {t : List (List UInt8)} {s x : List UInt8} (h : x ≠ s) : cnt (t ++ [s]) x = cnt t x := by
  simp [cnt, List.count_append, List.count_singleton, Ne.symm h]
theorem cnt_same {t : List (List UInt8)} {s : List UInt8} : cnt (t ++ [s]) s = cnt t s + 1 := by
  simp [cnt, List.count_append]

theorem counts_step {o t : List (List UInt8)} (hn : o.Nodup) {s : List UInt8} {k : Nat} (hk : k < o.length) (hs : nth o (k : Int) = s) :
    (o.map (cnt t)).set k (nth (o.map (cnt t)) (k : Int) + 1) = o.map (cnt (t ++ [s])) := by
  have ek : o[k] = s := by rw [← hs]; simp [nth, List.getElem?_eq_getElem hk]
  have en : nth (o.map (cnt t)) (k : Int) = cnt t s := by simp [nth, List.getElem?_eq_getElem hk, ek]
  rw [en]
  apply List.ext_getElem
  · simp
  · intro i h1 h2
    have hi : i < o.length := by simpa using h2
    rw [List.getElem_set, List.getElem_map, List.getElem_map]
    by_cases e : k = i
    · subst e
      rw [if_pos rfl, ek, cnt_same]
    · rw [if_neg e, cnt_old]
      have hp := List.pairwise_iff_getElem.1 hn
      intro h
      have h := h.trans ek.symm
      rcases Nat.lt_or_gt_of_ne e with h3 | h3
      · exact hp k i hk hi h3 h.symm
      · exact hp i k hi hk h3 h
theorem counts_new {o t : List (List UInt8)} {s : List UInt8} (hs : s ∉ o) (ht : s ∉ t) : o.map (cnt t) ++ [1] = (o ++ [s]).map (cnt (t ++ [s])) := by
  rw [List.map_append]
  congr 1
  · apply List.map_congr_left
    intro x hx
    rw [cnt_old]
    rintro rfl
    exact hs hx
  · simp only [List.map_cons, List.map_nil, cnt_same]
    simp [cnt, List.count_eq_zero_of_not_mem ht]

theorem c133 (D : D133 T) {H : AHeap} (hw : WF H) {v : AV} {l : List (List UInt8)} (hv : Sl encS 1 H v l) : Calls T 133 [v] H fun r H' => Fr H H' ∧ ∃ a b, r = .tup [a, b, .int .i64 (countsR l).2.2] ∧ Made encS 1 H.next H' a (countsR l).1 ∧ Made encI 1 H.next H' b (countsR l).2.1 := by
  refine Calls.fn D.pr D.fn ?_
  simp [ir133]
  refine WC.of (c132 D.d132 hw hv) ?_
  rintro r H1 ⟨f1, tv, rfl, m1⟩
  have hsm : ∀ j, j < (uniqR l).1.length → l.length ≤ 200 ∧ (uniqR l).1.length ≤ 200 := by
    intro j hj
    unfold uniqR at hj ⊢
    split
    · rename_i h; rw [if_pos h] at hj; simp at hj
    · exact ⟨by omega, by have := uq_len l; simp only; omega⟩
  have e1 : (countsR l).1 = (uniqR l).1 := by unfold countsR uniqR; split <;> rfl
  have e2 : (countsR l).2.1 = (uniqR l).1.map (cnt l) := by unfold countsR uniqR; split <;> rfl
  have e3 : (countsR l).2.2 = (uniqR l).2 := by unfold countsR uniqR; split <;> rfl
  rw [e1, e2, e3]
  generalize (uniqR l).1 = ts at *
  generalize (uniqR l).2 = er at *
  simp [m1.sl.len]
  refine W_loop (fun (i : Nat) e K => Fr H1 K ∧ e 0 = v ∧ e 5 = tv ∧ e 6 = .int .i64 er ∧ e 18 = tv ∧ e 19 = .int .i64 ts.length ∧ ∃ j : Nat, i + j = ts.length ∧ e 20 = .int .i64 j ∧ ∃ ov, e 7 = ov ∧ Made encI 1 H1.next K ov ((ts.map (cnt l)).take j)) id ts.length ?_ ?_
  · exact ⟨.refl f1.wf, by simp, by simp, by simp, by simp, by simp, 0, by simp, by simp, .slc none 0 0 none, by simp, .nil⟩
  · rintro i e K ⟨fr, h0, h5, h6, h18, h19, j, hj, h20, ov, h7, mo⟩
    have hv' := hv.fr hw (f1.trans fr)
    have mt := m1.fr f1.wf fr
    simp [h19, h20]
    refine WB.bool ?_ ?_
    · intro hlt
      simp at hlt
      have lt := mt.sl.ld (i := (j : Int)) (by omega) (by omega)
      obtain ⟨hl, htl⟩ := hsm j hlt
      have et : (ts.map (cnt l)).take (j + 1) = (ts.map (cnt l)).take j ++ [cnt l (nth ts (j : Int))] := by rw [← List.map_take, take_nth hlt, List.map_append, List.map_take]; rfl
      generalize nth ts (j : Int) = s at lt et
      have iat : psem (.ia 1) [tv, .int .i64 (j : Int)] = some (elt tv 1 j) := mt.sl.ia (by omega) (by omega)
      simp (disch := omega) [h0, h5, h6, h7, h18, h19, h20, iat, lt, hv'.len]
      refine W_loop (fun (i2 : Nat) e2 K2 => K2 = K ∧ e2 0 = v ∧ e2 5 = tv ∧ e2 6 = .int .i64 er ∧ e2 18 = tv ∧ e2 19 = .int .i64 ts.length ∧ e2 20 = .int .i64 j ∧ e2 7 = ov ∧ e2 9 = .str s ∧ e2 24 = v ∧ e2 25 = .int .i64 l.length ∧ ∃ m : Nat, i2 + m = l.length ∧ e2 26 = .int .i64 m ∧ ∃ c : Nat, e2 10 = .int .i64 c ∧ c = (l.take m).count s) id l.length ?_ ?_
      · exact ⟨rfl, by simp [h0], by simp [h5], by simp [h6], by simp [h18], by simp [h19], by simp [h20], by simp [h7], by simp, by simp, by simp, 0, by simp, by simp, 0, by simp, by simp⟩
      · rintro i2 e2 K2 ⟨rfl, g0, g5, g6, g18, g19, g20, g7, g9, g24, g25, m, hm, g26, c, g10, hc⟩
        simp [g25, g26]
        refine WB.bool ?_ ?_
        · intro hl2
          simp at hl2
          have lv := hv'.ld (i := (m : Int)) (by omega) (by omega)
          have etk := take_nth hl2
          have hcl : c ≤ m := by rw [hc]; refine Nat.le_trans List.count_le_length ?_; simp; omega
          generalize nth l (m : Int) = t at lv etk
          by_cases hst : s = t
          · subst hst
            simp (disch := omega) [g0, g5, g6, g7, g9, g10, g18, g19, g20, g24, g25, g26, hv'.ia, lv, wrap64]
            refine ⟨i2 - 1, by omega, m + 1, by omega, by omega, ?_⟩
            rw [etk, List.count_append]
            simp
            omega
          · simp (disch := omega) [g0, g5, g6, g7, g9, g10, g18, g19, g20, g24, g25, g26, hv'.ia, lv, wrap64, hst]
            refine ⟨i2 - 1, by omega, m + 1, by omega, by omega, ?_⟩
            rw [etk, List.count_append, List.count_singleton]
            have : (t == s) = false := by simpa using Ne.symm hst
            simp [this, hc]
        · intro hl2
          simp at hl2
          rw [List.take_of_length_le (by omega)] at hc
          have ec : cnt l s = (c : Int) := by rw [hc]
          obtain ⟨v', K', q1, q2, q3, q4⟩ := push_n (bytes := 8) fr.wf fr.next mo (c : Int) (by simp; omega) (by simp; omega)
          simp (disch := omega) [g0, g5, g6, g7, g9, g10, g18, g19, g20, wsem0_bsl1 (v := encI (c : Int)) rfl, q1, wrap64]
          refine ⟨i - 1, by omega, fr.step q2 q3 (fun g h => h), j + 1, by omega, by omega, ?_⟩
          rw [et, ec]; exact q4
    · intro hlt
      simp at hlt
      rw [List.take_of_length_le (by simp; omega)] at mo
      simp [h5, h6, h7]
      exact ⟨f1.trans fr, _, _, ⟨rfl, rfl⟩, mt, mo.mono f1.next⟩

theorem c130 (D : D130 T) {H : AHeap} (hw : WF H) {v : AV} {l : List (List UInt8)} (hv : Sl encS 1 H v l) : Calls T 130 [v] H fun r H' => Fr H H' ∧ ∃ a b, r = .tup [a, b, .int .i64 (countsR l).2.2] ∧ Made encS 1 H.next H' a (countsR l).1 ∧ Made encI 1 H.next H' b (countsR l).2.1 := by
  refine Calls.fn D.pr D.fn ?_
  by_cases h1 : 200 < l.length
  · simp [ir130, hv.len, countsR, h1, show (200 : Int) < l.length by omega]
    exact ⟨.refl hw, _, _, ⟨rfl, rfl⟩, .nil, .nil⟩
  simp [ir130, hv.len, countsR, h1, show ¬ (200 : Int) < l.length by omega]
  refine W_loop (fun (i : Nat) e K => Fr H K ∧ e 0 = v ∧ ∃ j : Nat, i + j = l.length ∧ e 7 = .int .i64 j ∧ ∃ a b, e 5 = a ∧ e 6 = b ∧ Pair encS encI H.next K a (uq (l.take j)) b ((uq (l.take j)).map (cnt (l.take j)))) id l.length ?_ ?_
  · exact ⟨.refl hw, by simp, 0, by simp, by simp, .slc none 0 0 none, .slc none 0 0 none, by simp, by simp, .nil⟩
  · rintro i e K ⟨fr, h0, j, hj, h7, a, b, h5, h6, pr⟩
    have hv' := hv.fr hw fr
    simp [h0, h7, hv'.len]
    refine WB.bool ?_ ?_
    · intro hlt
      simp at hlt
      have lv := hv'.ld (i := (j : Int)) (by omega) (by omega)
      have lv2 : ∀ {X : AHeap}, Fr K X → rsem (.ld 1 false) [elt v 1 (j : Int)] X = some (encS (nth l (j : Int))) := fun hX => (hv'.fr fr.wf hX).ld (by omega) (by omega)
      have hq := uq_snoc (l.take j) (nth l (j : Int))
      have ht := take_nth hlt
      rw [← ht] at hq
      have hlen := uq_len (l.take j)
      rw [List.length_take] at hlen
      have hmu := mem_uq (nth l (j : Int)) (l.take j)
      have hnd := uq_nodup (l.take j)
      generalize nth l (j : Int) = s at lv lv2 hq ht hmu
      simp (disch := omega) [h0, h5, h7, hv'.ia, lv]
      refine WC.of (c161 D.d161 pr.left.sl (by omega)) ?_
      rintro r K2 ⟨rfl, n, rfl, ⟨hm, k, rfl, hk, hs⟩ | ⟨hm, rfl⟩⟩
      · rw [if_pos hm] at hq
        have hkl : k < ((uq (l.take j)).map (cnt (l.take j))).length := by simpa using hk
        have hcs := counts_step (t := l.take j) hnd hk hs
        have pb := pr.right.sl
        have lb := pb.ld (i := (k : Int)) (by omega) (by omega)
        have iab : psem (.ia 1) [b, .int .i64 (k : Int)] = some (elt b 1 k) := pb.ia (by omega) (by omega)
        have hnb : 0 ≤ nth ((uq (l.take j)).map (cnt (l.take j))) (k : Int) ∧ nth ((uq (l.take j)).map (cnt (l.take j))) (k : Int) ≤ 200 := by
          have : nth ((uq (l.take j)).map (cnt (l.take j))) (k : Int) = cnt (l.take j) (uq (l.take j))[k] := by simp [nth, List.getElem?_eq_getElem hk]
          rw [this]
          have h2 := List.count_le_length (a := (uq (l.take j))[k]) (l := l.take j)
          rw [List.length_take] at h2
          unfold cnt
          omega
        rw [← ht] at hcs
        obtain ⟨K', q1, q2, q3, q4, q5⟩ := pr.symm.st fr.wf (i := (k : Int)) (by omega) (by omega) (nth ((uq (l.take j)).map (cnt (l.take j))) (k : Int) + 1)
        rw [Int.toNat_natCast, hcs] at q4
        generalize nth ((uq (l.take j)).map (cnt (l.take j))) (k : Int) = nb at *
        simp (disch := omega) [h0, h5, h6, h7, iab, lb, q1, wrap64]
        refine ⟨i - 1, by omega, fr.step q2 q3 (fun g h => h), j + 1, by omega, by omega, ?_⟩
        rw [hq]; exact q4.symm
      · rw [if_neg hm] at hq
        obtain ⟨v', K', q1, q2, q3, q4⟩ := pr.push fr.wf fr.next (bytes := 16) s (by omega) (by omega)
        have fr' : Fr H K' := fr.step q2 q3 (fun g h => h)
        obtain ⟨v2, K3, r1, r2, r3, r4⟩ := q4.symm.push q2 fr'.next (bytes := 8) 1 (by simp; omega) (by simp; omega)
        have hcn := counts_new hm (fun h => hm (hmu.2 h))
        rw [hcn, ← ht, ← hq] at r4
        rw [← hq] at q4
        have iav : psem (.ia 1) [v, .int .i64 (j : Int)] = some (elt v 1 j) := hv'.ia (by omega) (by omega)
        simp (disch := omega) [h0, h5, h6, h7, iav, lv, wsem0_bsl1 (v := .str s) rfl, q1, wsem0_bsl1 (v := .int .i64 1) rfl, r1, wrap64]
        exact ⟨i - 1, by omega, fr'.step r2 r3 (fun g h => h), j + 1, by omega, by omega, r4.symm⟩
    · intro hlt
      simp at hlt
      rw [List.take_of_length_le (by omega)] at pr
      simp [h5, h6]
      exact ⟨fr, _, _, ⟨rfl, rfl⟩, pr.left, pr.right⟩

theorem c129 (D : D129 T) {H : AHeap} (hw : WF H) {v : AV} {l : List (List UInt8)} (hv : Sl encS 1 H v l) : Calls T 129 [v] H fun r H' => Fr H H' ∧ ∃ a, r = .tup [a, .int .i64 (uniqR l).2] ∧ Made encS 1 H.next H' a (uniqR l).1 := by
  refine Calls.fn D.pr D.fn ?_
  simp [ir129]
  refine WC.of (c130 D.d130 hw hv) ?_
  rintro r H1 ⟨f1, a, b, rfl, m1, m2⟩
  have e1 : (countsR l).1 = (uniqR l).1 := by unfold countsR uniqR; split <;> rfl
  have e3 : (countsR l).2.2 = (uniqR l).2 := by unfold countsR uniqR; split <;> rfl
  rw [e1] at m1
  simp [e3]
  exact ⟨f1, m1⟩

theorem c131 (D : D131 T) {H : AHeap} (hw : WF H) {u v : AV} {l m : List (List UInt8)} (hu : Sl encS 1 H u l) (hv : Sl encS 1 H v m) : Calls T 131 [u, v] H fun r H' => Fr H H' ∧ ∃ a, r = .tup [a, .int .i64 (unionR l m).2] ∧ Made encS 1 H.next H' a (unionR l m).1 := by
  refine Calls.fn D.pr D.fn ?_
  by_cases h1 : 200 < l.length
  · simp [ir131, hu.len, hv.len, unionR, h1, show (200 : Int) < l.length by omega]
    exact ⟨.refl hw, .nil⟩
  by_cases h2 : 200 < m.length
  · simp [ir131, hu.len, hv.len, unionR, h1, h2, show ¬ (200 : Int) < l.length by omega, show (200 : Int) < m.length by omega]
    exact ⟨.refl hw, .nil⟩
  simp [ir131, hu.len, hv.len, unionR, h1, h2, show ¬ (200 : Int) < l.length by omega, show ¬ (200 : Int) < m.length by omega]
  refine W_loop (fun (i : Nat) e K => Fr H K ∧ e 0 = u ∧ e 1 = v ∧ ∃ j : Nat, i + j = l.length + m.length ∧ e 7 = .int .i64 j ∧ ∃ ov, e 6 = ov ∧ Made encS 1 H.next K ov (uq ((l ++ m).take j))) id (l.length + m.length) ?_ ?_
  · exact ⟨.refl hw, by simp, by simp, 0, by simp, by simp, .slc none 0 0 none, by simp, by simpa [uq] using Made.nil⟩
  · rintro i e K ⟨fr, h0, h1', j, hj, h7, ov, h6, mo⟩
    have hu' := hu.fr hw fr
    have hv' := hv.fr hw fr
    simp (disch := omega) [h0, h1', h7, hu'.len, hv'.len, wrap64]
    refine WB.bool ?_ ?_
    · intro hlt
      simp at hlt
      have hlt' : j < (l ++ m).length := by rw [List.length_append]; omega
      have hq := uq_snoc ((l ++ m).take j) (nth (l ++ m) (j : Int))
      rw [← take_nth hlt'] at hq
      have hlen := uq_len ((l ++ m).take j)
      rw [List.length_take] at hlen
      have fin : ∀ s, nth (l ++ m) (j : Int) = s → (s ∈ uq ((l ++ m).take j) → Made encS 1 H.next K ov (uq ((l ++ m).take (j + 1)))) ∧ (s ∉ uq ((l ++ m).take j) → ∃ v' K', wsem0 (.app 1 16) [ov, .slc (some (K.next, 0)) 1 1 (some 1)] (K.new [encS s]) = some (v', K') ∧ Fr H K' ∧ Made encS 1 H.next K' v' (uq ((l ++ m).take (j + 1)))) := by
        rintro s rfl
        constructor
        · intro hm; rw [hq, if_pos hm]; exact mo
        · intro hm
          obtain ⟨v', K', q1, q2, q3, q4⟩ := push_n (bytes := 16) fr.wf fr.next mo (nth (l ++ m) (j : Int)) (by omega) (by omega)
          exact ⟨v', K', q1, fr.step q2 q3 (fun g h => h), by rw [hq, if_neg hm]; exact q4⟩
      by_cases hjl : j < l.length
      · have lu := hu'.ld (i := (j : Int)) (by omega) (by omega)
        obtain ⟨fa, fb⟩ := fin (nth l (j : Int)) (by simp [nth, List.getElem?_append_left hjl])
        generalize nth l (j : Int) = s at lu fa fb
        simp (disch := omega) [h0, h1', h6, h7, hu'.len, hjl, hu'.ia, lu]
        refine WC.of (c161 D.d161 mo.sl (by omega)) ?_
        rintro r K2 ⟨rfl, n, rfl, ⟨hm, k, rfl, hk, hs⟩ | ⟨hm, rfl⟩⟩
        · simp (disch := omega) [h0, h1', h6, h7, wrap64]
          exact ⟨i - 1, by omega, fr, j + 1, by omega, by omega, fa hm⟩
        · obtain ⟨v', K', q1, q2, q3⟩ := fb hm
          simp (disch := omega) [h0, h1', h6, h7, wsem0_bsl1 (v := .str s) rfl, q1, wrap64]
          exact ⟨i - 1, by omega, q2, j + 1, by omega, by omega, q3⟩
      · obtain ⟨x, hx⟩ : ∃ x : Nat, (j : Int) - l.length = x := ⟨j - l.length, by omega⟩
        have lv := hv'.ld (i := (x : Int)) (by omega) (by omega)
        have iav : psem (.ia 1) [v, .int .i64 (x : Int)] = some (elt v 1 x) := hv'.ia (by omega) (by omega)
        obtain ⟨fa, fb⟩ := fin (nth m (x : Int)) (by
          have e : j = x + l.length := by omega
          subst e
          have e2 : ((x : Int) + (l.length : Int)).toNat = x + l.length := by omega
          simp [nth, e2, List.getElem?_append_right])
        generalize nth m (x : Int) = s at lv fa fb
        simp (disch := omega) [h0, h1', h6, h7, hu'.len, hjl, hx, iav, lv, wrap64]
        refine WC.of (c161 D.d161 mo.sl (by omega)) ?_
        rintro r K2 ⟨rfl, n, rfl, ⟨hm, k, rfl, hk, hs⟩ | ⟨hm, rfl⟩⟩
        · simp (disch := omega) [h0, h1', h6, h7, wrap64]
          exact ⟨i - 1, by omega, fr, j + 1, by omega, by omega, fa hm⟩
        · obtain ⟨v', K', q1, q2, q3⟩ := fb hm
          simp (disch := omega) [h0, h1', h6, h7, wsem0_bsl1 (v := .str s) rfl, q1, wrap64]
          exact ⟨i - 1, by omega, q2, j + 1, by omega, by omega, q3⟩
    · intro hlt
      simp at hlt
      rw [List.take_of_length_le (by rw [List.length_append]; omega)] at mo
      simp [h6]
      exact ⟨fr, mo⟩

theorem uniqR_len (l : List (List UInt8)) : (uniqR l).1.length ≤ 200 := by
  unfold uniqR; split
  · simp
  · have := uq_len l; simp only; omega
theorem unionR_len (l m : List (List UInt8)) : (unionR l m).1.length ≤ 400 := by
  unfold unionR; split
  · simp
  · have := uq_len (l ++ m); simp only [List.length_append] at this ⊢; omega
theorem countsR_len (l : List (List UInt8)) : (countsR l).1.length ≤ 200 ∧ (countsR l).2.1.length ≤ 200 := by
  unfold countsR; split
  · simp
  · have := uq_len l; simp only [List.length_map]; omega

theorem c108 (D : D108 T) {H : AHeap} (hw : WF H) {u v : AV} {l m : List (List UInt8)} (hu : Sl encS 1 H u l) (hv : Sl encS 1 H v m) (hl : l.length < 2 ^ 63) (hm : m.length < 2 ^ 63) : Calls T 108 [u, v] H fun r _ => r = .bool true := by
  refine Calls.fn D.pr D.fn ?_
  have known : ∀ {X : AHeap}, WF X → Calls T 112 [] X fun v _ => v = .bool true := fun h => c112 D.d112 h
  simp [ir108]
  refine WC.of (c114 D.d114 hu hl) ?_
  rintro r H' ⟨rfl, b1, rfl⟩
  cases b1 with
  | true =>
    simp
    refine WC.of (known hw) ?_
    rintro v H' rfl
    simp
  | false =>
    simp
    refine WC.of (c114 D.d114 hv hm) ?_
    rintro r H' ⟨rfl, b1, rfl⟩
    cases b1 with
    | true =>
      simp
      refine WC.of (known hw) ?_
      rintro v H' rfl
      simp
    | false =>
      simp
      refine WC.of (c129 D.d129 hw hu) ?_
      rintro r H1 ⟨f1, b, rfl, mb⟩
      simp
      refine WC.of (c130 D.d130 f1.wf (hu.fr hw f1)) ?_
      rintro r H2 ⟨f2, d, n, rfl, md, mm⟩
      have f02 := f1.trans f2
      simp
      refine WC.of (c131 D.d131 f2.wf (hu.fr hw f02) (hv.fr hw f02)) ?_
      rintro r H3 ⟨f3, y, rfl, my⟩
      have f03 := f02.trans f3
      simp
      refine WC.of (c132 D.d132 f3.wf (hu.fr hw f03)) ?_
      rintro r H4 ⟨f4, a, rfl, ma⟩
      have f04 := f03.trans f4
      simp
      refine WC.of (c133 D.d133 f4.wf (hu.fr hw f04)) ?_
      rintro r H5 ⟨f5, c, n2, rfl, mc, mn⟩
      have f05 := f04.trans f5
      simp
      refine WC.of (c134 D.d134 f5.wf (hu.fr hw f05) (hv.fr hw f05)) ?_
      rintro r H6 ⟨f6, x, rfl, mx⟩
      have f36 := (f4.trans f5).trans f6
      have f26 := f3.trans f36
      have f16 := f2.trans f26
      have h1 := uniqR_len l
      have h2 := unionR_len l m
      have h3 := countsR_len l
      simp
      refine WC.of (c122 D.d122 (ma.sl.fr f4.wf (f5.trans f6)) (mb.sl.fr f1.wf f16) (by omega)) ?_
      rintro r H7 ⟨rfl, rfl⟩
      simp
      refine WC.of (c122 D.d122 (mc.sl.fr f5.wf f6) (md.sl.fr f2.wf f26) (by omega)) ?_
      rintro r H8 ⟨rfl, rfl⟩
      simp
      refine WC.of (c135 D.d135 (mn.sl.fr f5.wf f6) (mm.sl.fr f2.wf f26) (by omega)) ?_
      rintro r H9 ⟨rfl, rfl⟩
      simp
      refine WC.of (c122 D.d122 mx.sl (my.sl.fr f3.wf f36) (by omega)) ?_
      rintro r H10 ⟨rfl, rfl⟩
      simp
      refine WC.of (known f6.wf) ?_
      rintro v H' rfl
      simp

theorem law108 (D : D108 T) {K : AHeap} {as : List AV} (hw : WF K) (hg : Goods K [.slice .str, .slice .str] as) : Calls T 108 as K fun v _ => v = .bool true := by
  obtain ⟨a, r, rfl, g1, b, r2, rfl, g2, rfl⟩ := hg
  obtain ⟨l, hl, hm, _⟩ := g1.strs
  obtain ⟨m, hl2, hm2, _⟩ := g2.strs
  have e : maxLen = 2 ^ 63 - 1 := rfl
  exact c108 D hw hl hl2 (by omega) (by omega)
end Go.Am
