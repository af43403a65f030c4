/- Contracts: texts without those that were there before, how often each one was there, the union of two lists. -/
import Derived.Test.YtepgjaknkjkpaaaDoorAmSplice
set_option linter.unusedVariables false
set_option linter.unusedSimpArgs false
namespace Go.Am
variable {T : Tab}

/-! ### Two lists of any kinds that change side by side -/
section
variable {α β : Type} {enc : α → AV} {enc' : β → AV}
theorem Own.st [Cell enc] {H : AHeap} (hw : WF H) {v : AV} {l : List α} {f : Option Nat} (h : Own enc 1 H v l f) {i : Int} (h0 : 0 ≤ i) (h1 : i < l.length) (x : α) :
    ∃ H', wsem0 (.st 1) [elt v 1 i, enc x] H = some (.undef, H') ∧ WF H' ∧ Keeps (fun g => f = some g) H H' ∧ Own enc 1 H' v (l.set i.toNat x) f ∧ H'.next = H.next := by
  obtain ⟨⟨hz, p, sv, cap, rfl, hcap, h2⟩, hf⟩ := h
  cases p with
  | none => have h2 : l = [] := h2; subst h2; simp at h1; omega
  | some q =>
    obtain ⟨b, off⟩ := q
    obtain ⟨rfl, g, cs, h4, h5, h6⟩ := h2
    obtain ⟨g', cs', q1, q2, q3⟩ := hf
    rw [h4] at q1; cases q1
    have hbox : Box H b g cs := ⟨h4, q3⟩
    have hi : off + i.toNat < cs.length := by omega
    obtain ⟨H', r1, r2, r3, r4, r5⟩ := hbox.st hw (off := off + i.toNat) (vs := [enc x]) (by simp; omega) (by simpa using Cell.cell x)
    rw [splice_one hi] at r3
    have hc := Cell.cells (enc := enc) x
    refine ⟨H', ?_, r2, r4.mono fun g' hg => by subst hg; exact q2, ⟨⟨Cell.len _, some (b, off), 1, cap, by rw [List.length_set], by simpa using hcap, rfl, g, _, r3.row, by simpa using h5, ?_⟩, g, _, r3.row, q2, r3.fam⟩, r5⟩
    · simp only [elt, Nat.mul_one, wsem0_st, hc, List.length_singleton, if_true, r1]
    · rw [Cell.flat] at h6 ⊢
      rw [List.length_set, List.drop_set, if_neg (by omega), List.take_set, h6, List.map_set]
      congr 1
      omega

def Pair (enc : α → AV) (enc' : β → AV) (n : Nat) (H : AHeap) (a : AV) (la : List α) (b : AV) (lb : List β) : Prop :=
  ∃ fa fb, Own enc 1 H a la fa ∧ Own enc' 1 H b lb fb ∧ (∀ g, fa = some g → n ≤ g) ∧ (∀ g, fb = some g → n ≤ g) ∧ ∀ g, fa = some g → fb = some g → False

theorem Pair.nil {n : Nat} {H : AHeap} : Pair enc enc' n H (.slc none 0 0 none) [] (.slc none 0 0 none) [] := ⟨none, none, Own.nil (by simp), Own.nil (by simp), by simp, by simp, by simp⟩
theorem Pair.symm {n : Nat} {H : AHeap} {a b : AV} {la : List α} {lb : List β} (h : Pair enc enc' n H a la b lb) : Pair enc' enc n H b lb a la := by
  obtain ⟨fa, fb, h1, h2, h3, h4, h5⟩ := h
  exact ⟨fb, fa, h2, h1, h4, h3, fun g x y => h5 g y x⟩
theorem Pair.left {n : Nat} {H : AHeap} {a b : AV} {la : List α} {lb : List β} (h : Pair enc enc' n H a la b lb) : Made enc 1 n H a la := by
  obtain ⟨fa, fb, h1, h2, h3, h4, h5⟩ := h
  exact ⟨fa, h1, h3⟩
theorem Pair.right {n : Nat} {H : AHeap} {a b : AV} {la : List α} {lb : List β} (h : Pair enc enc' n H a la b lb) : Made enc' 1 n H b lb := h.symm.left
theorem Pair.push [Cell enc] {n : Nat} {H : AHeap} (hw : WF H) (hn : n ≤ H.next) {a b : AV} {la : List α} {lb : List β} {bytes : Nat} (h : Pair enc enc' n H a la b lb) (x : α) (hb : (la.length + 1) * bytes ≤ 2 ^ 46) (hb2 : la.length + 1 ≤ 2 ^ 60) :
    ∃ v' H', wsem0 (.app 1 bytes) [a, .slc (some (H.next, 0)) 1 1 (some 1)] (H.new [enc x]) = some (v', H') ∧ WF H' ∧ Keeps (n ≤ ·) H H' ∧ Pair enc enc' n H' v' (la ++ [x]) b lb := by
  obtain ⟨fa, fb, h1, h2, h3, h4, h5⟩ := h
  obtain ⟨v', H', f', q1, q2, q3, q4, q5⟩ := push1 (bytes := bytes) hw h1 x hb hb2
  refine ⟨v', H', q1, q2, q4.mono h3, f', fb, q3, h2.keeps hw q4 fun g hg hd => h5 g hd hg, fun g hg => ?_, h4, fun g hg hd => ?_⟩
  · rcases q5 g hg with h | h
    · exact h3 g h
    · exact Nat.le_trans hn h
  · rcases q5 g hg with h | h
    · exact h5 g h hd
    · subst hd
      have := h2.2.lt hw
      omega
theorem Pair.st [Cell enc] {n : Nat} {H : AHeap} (hw : WF H) {a b : AV} {la : List α} {lb : List β} (h : Pair enc enc' n H a la b lb) {i : Int} (h0 : 0 ≤ i) (h1 : i < la.length) (x : α) :
    ∃ H', wsem0 (.st 1) [elt a 1 i, enc x] H = some (.undef, H') ∧ WF H' ∧ Keeps (n ≤ ·) H H' ∧ Pair enc enc' n H' a (la.set i.toNat x) b lb ∧ H'.next = H.next := by
  obtain ⟨fa, fb, h1', h2, h3, h4, h5⟩ := h
  obtain ⟨H', q1, q2, q3, q4, q5⟩ := h1'.st hw h0 h1 x
  exact ⟨H', q1, q2, q3.mono h3, ⟨fa, fb, q4, h2.keeps hw q3 fun g hg hd => h5 g hd hg, h3, h4, h5⟩, q5⟩
end

theorem nth_mem {α : Type} [Inhabited α] {l : List α} {j : Nat} (h : j < l.length) : nth l (j : Int) ∈ l := by
  have : nth l (j : Int) = l[j] := by simp [nth, List.getElem?_eq_getElem h]
  rw [this]; exact List.getElem_mem _

/-! ### Each text once -/
def uq (l : List (List UInt8)) : List (List UInt8) := l.foldl (fun o s => if s ∈ o then o else o ++ [s]) []
theorem uq_snoc (l : List (List UInt8)) (s : List UInt8) : uq (l ++ [s]) = if s ∈ uq l then uq l else uq l ++ [s] := by
  unfold uq
  rw [List.foldl_append]
  generalize l.foldl (fun o s => if s ∈ o then o else o ++ [s]) [] = o
  by_cases h : s ∈ o <;> simp [h]
theorem uq_fold_len : ∀ (l o : List (List UInt8)), (l.foldl (fun o s => if s ∈ o then o else o ++ [s]) o).length ≤ o.length + l.length
  | [], o => by simp
  | s :: l, o => by
    rw [List.foldl_cons]
    refine Nat.le_trans (uq_fold_len l _) ?_
    split <;> simp <;> omega
theorem uq_len (l : List (List UInt8)) : (uq l).length ≤ l.length := by
  have := uq_fold_len l []
  simpa [uq] using this
theorem uq_fold_nodup : ∀ (l o : List (List UInt8)), o.Nodup → (l.foldl (fun o s => if s ∈ o then o else o ++ [s]) o).Nodup
  | [], o, h => h
  | s :: l, o, h => by
    rw [List.foldl_cons]
    refine uq_fold_nodup l _ ?_
    split
    · exact h
    · rename_i hs
      rw [List.nodup_append]
      refine ⟨h, by simp, ?_⟩
      intro a ha b hb e
      simp at hb
      subst hb; subst e
      exact hs ha
theorem uq_nodup (l : List (List UInt8)) : (uq l).Nodup := uq_fold_nodup l [] (by simp)

theorem c193 (D : D193 T) {H : AHeap} {v : AV} {l : List (List UInt8)} {s : List UInt8} (hv : Sl encS 1 H v l) (hl : l.length < 2 ^ 62) : Calls T 193 [v, .str s] H fun r H' => H' = H ∧ ∃ n, r = .int .i64 n ∧ (0 ≤ n ↔ s ∈ l) := by
  refine Calls.fn D.pr D.fn ?_
  simp [ir193, hv.len]
  refine W_loop (fun (i : Nat) e H' => H' = H ∧ e 0 = v ∧ e 1 = .str s ∧ e 7 = .int .i64 l.length ∧ ∃ j : Nat, i + j = l.length ∧ e 8 = .int .i64 j ∧ s ∉ l.take j) id l.length ?_ ?_
  · simp
  · rintro i e K ⟨rfl, h0, h1, h7, j, hj, h8, hn⟩
    simp [h7, h8]
    refine WB.bool ?_ ?_
    · intro hlt
      simp at hlt
      have lv := hv.ld (i := (j : Int)) (by omega) (by omega)
      have hm := nth_mem hlt
      have et := take_nth hlt
      simp (disch := omega) [h0, h1, h7, h8, hv.ia, lv]
      refine WB.bool ?_ ?_
      · intro h
        simp at h
        simp [h, hm]
      · intro h
        simp at h
        simp (disch := omega) [h0, h1, h7, h8, wrap64]
        refine ⟨i - 1, by omega, j + 1, by omega, by omega, ?_⟩
        rw [et]
        simp [hn, h]
    · intro hlt
      simp at hlt
      rw [List.take_of_length_le (by omega)] at hn
      simp [hn]

theorem c179 (D : D179 T) {H : AHeap} {v : AV} {l : List (List UInt8)} {s : List UInt8} (hv : Sl encS 1 H v l) (hl : l.length < 2 ^ 62) : Calls T 179 [v, .str s] H fun r H' => H' = H ∧ r = .bool (decide (s ∈ l)) := by
  refine Calls.fn D.pr D.fn ?_
  simp [ir179]
  refine WC.of (c193 D.d193 hv hl) ?_
  rintro r H' ⟨rfl, n, rfl, hn⟩
  simp [hn]

theorem c161 (D : D161 T) {H : AHeap} {v : AV} {l : List (List UInt8)} {s : List UInt8} (hv : Sl encS 1 H v l) (hl : l.length < 2 ^ 62) :
    Calls T 161 [v, .str s] H fun r H' => H' = H ∧ ∃ n, r = .int .i64 n ∧ ((s ∈ l ∧ ∃ k : Nat, n = k ∧ k < l.length ∧ nth l (k : Int) = s) ∨ (s ∉ l ∧ n = -1)) := by
  refine Calls.fn D.pr D.fn ?_
  simp [ir161, hv.len]
  refine W_loop (fun (i : Nat) e H' => H' = H ∧ e 0 = v ∧ e 1 = .str s ∧ ∃ j : Nat, i + j = l.length ∧ e 5 = .int .i64 j ∧ s ∉ l.take j) id l.length ?_ ?_
  · simp
  · rintro i e K ⟨rfl, h0, h1, j, hj, h5, hn⟩
    simp [h0, h5, hv.len]
    refine WB.bool ?_ ?_
    · intro hlt
      simp at hlt
      have lv := hv.ld (i := (j : Int)) (by omega) (by omega)
      have hm := nth_mem hlt
      have et := take_nth hlt
      simp (disch := omega) [h0, h1, h5, hv.ia, lv]
      refine WB.bool ?_ ?_
      · intro h
        simp at h
        subst h
        simp [h5]
        exact ⟨hm, j, rfl, hlt, rfl⟩
      · intro h
        simp at h
        simp (disch := omega) [h0, h1, h5, wrap64]
        refine ⟨i - 1, by omega, j + 1, by omega, by omega, ?_⟩
        rw [et]
        simp [hn, Ne.symm h]
    · intro hlt
      simp at hlt
      rw [List.take_of_length_le (by omega)] at hn
      simp [hn]

theorem c162 (D : D162 T) {H : AHeap} (hw : WF H) {v : AV} {l : List (List UInt8)} (hv : Sl encS 1 H v l) (hl : l.length ≤ 2 ^ 30) : Calls T 162 [v] H fun r H' => Fr H H' ∧ Made encS 1 H.next H' r (uq l) := by
  refine Calls.fn D.pr D.fn ?_
  simp [ir162, hv.len]
  refine W_loop (fun (i : Nat) e K => Fr H K ∧ e 6 = v ∧ e 7 = .int .i64 l.length ∧ ∃ j : Nat, i + j = l.length ∧ e 8 = .int .i64 j ∧ ∃ ov, e 3 = ov ∧ Made encS 1 H.next K ov (uq (l.take j))) id l.length ?_ ?_
  · exact ⟨.refl hw, by simp, by simp, 0, by simp, by simp, .slc none 0 0 none, by simp, .nil⟩
  · rintro i e K ⟨fr, h6, h7, j, hj, h8, ov, h3, mo⟩
    have hv' := hv.fr hw fr
    simp [h7, h8]
    refine WB.bool ?_ ?_
    · intro hlt
      simp at hlt
      have lv := hv'.ld (i := (j : Int)) (by omega) (by omega)
      have hq := uq_snoc (l.take j) (nth l (j : Int))
      rw [← take_nth hlt] at hq
      have hlen := uq_len (l.take j)
      rw [List.length_take] at hlen
      generalize nth l (j : Int) = s at lv hq
      simp (disch := omega) [h3, h6, h8, hv'.ia, lv]
      refine WC.of (c179 D.d179 mo.sl (by omega)) ?_
      rintro r K2 ⟨rfl, rfl⟩
      by_cases hm : s ∈ uq (l.take j)
      · rw [if_pos hm] at hq
        simp (disch := omega) [hm, h3, h6, h7, h8, wrap64]
        refine ⟨i - 1, by omega, fr, j + 1, by omega, by omega, ?_⟩
        rw [hq]; exact mo
      · rw [if_neg hm] at hq
        obtain ⟨v', K', q1, q2, q3, q4⟩ := push_n (bytes := 16) fr.wf fr.next mo s (by omega) (by omega)
        simp (disch := omega) [hm, h3, h6, h7, h8, wsem0_bsl1 (v := .str s) rfl, q1, wrap64]
        refine ⟨i - 1, by omega, fr.step q2 q3 (fun g h => h), j + 1, by omega, by omega, ?_⟩
        rw [hq]; exact q4
    · intro hlt
      simp at hlt
      rw [List.take_of_length_le (by omega)] at mo
      simp [h3]
      exact ⟨fr, mo⟩

def uniqR (l : List (List UInt8)) : List (List UInt8) × Int := if 200 < l.length then ([], 3) else (uq l, 0)
def countsR (l : List (List UInt8)) : List (List UInt8) × List Int × Int := if 200 < l.length then ([], [], 3) else (uq l, (uq l).map fun s => ((l.count s : Nat) : Int), 0)
def unionR (l m : List (List UInt8)) : List (List UInt8) × Int := if 200 < l.length ∨ 200 < m.length then ([], 3) else (uq (l ++ m), 0)

theorem c132 (D : D132 T) {H : AHeap} (hw : WF H) {v : AV} {l : List (List UInt8)} (hv : Sl encS 1 H v l) : Calls T 132 [v] H fun r H' => Fr H H' ∧ ∃ a, r = .tup [a, .int .i64 (uniqR l).2] ∧ Made encS 1 H.next H' a (uniqR l).1 := by
  refine Calls.fn D.pr D.fn ?_
  simp [ir132, hv.len]
  refine WC.of (c148 D.d148) ?_
  rintro r H' ⟨rfl, rfl⟩
  by_cases h1 : 200 < l.length
  · simp [uniqR, h1, show (200 : Int) < l.length by omega]
    exact ⟨.refl hw, .nil⟩
  · simp [uniqR, h1, show ¬ (200 : Int) < l.length by omega]
    refine WC.of (c162 D.d162 hw hv (by omega)) ?_
    rintro r H1 ⟨f1, m1⟩
    simp
    exact ⟨f1, m1⟩

theorem wsem0_bsl2 {a b z1 z2 : AV} {H : AHeap} (ha : a.cell = true) (hb : b.cell = true) : wsem0 (.bsl 1 2 [z1, z2] [(0, 1), (1, 1)]) [a, b] H = some (.slc (some (H.next, 0)) 1 2 (some 2), H.new [a, b]) := by
  have h1 : a.cells = [a] := by cases a <;> simp_all [AV.cells, AV.cell]
  have h2 : b.cells = [b] := by cases b <;> simp_all [AV.cells, AV.cell]
  simp [wsem0, wsem, fill, h1, h2, ha, hb, splice]

theorem c134 (D : D134 T) {H : AHeap} (hw : WF H) {u v : AV} {l m : List (List UInt8)} (hu : Sl encS 1 H u l) (hv : Sl encS 1 H v m) : Calls T 134 [u, v] H fun r H' => Fr H H' ∧ ∃ a, r = .tup [a, .int .i64 (unionR l m).2] ∧ Made encS 1 H.next H' a (unionR l m).1 := by
  refine Calls.fn D.pr D.fn ?_
  by_cases h1 : 200 < l.length
  · simp [ir134, hu.len, hv.len, unionR, h1, show (200 : Int) < l.length by omega]
    exact ⟨.refl hw, .nil⟩
  by_cases h2 : 200 < m.length
  · simp [ir134, hu.len, hv.len, unionR, h1, h2, show ¬ (200 : Int) < l.length by omega, show (200 : Int) < m.length by omega]
    exact ⟨.refl hw, .nil⟩
  have fu := hu.form
  have fv := hv.form
  have fw : Fr H (H.new [u, v]) := hw.fr_new
  have o3 := hw.own_new (enc := encA) (sz := 1) (l := [u, v]) (cs := [u, v]) (cap := some 2) (Cell.len _) (by simp) (by simp) (by simp [encA, fu, fv])
  have el : ∀ i, i < [u, v].length → Sl encS 1 (H.new [u, v]) (encA (nth [u, v] i)) (nth [l, m] i) := by
    intro i hi
    match i, hi with
    | 0, _ => simpa [nth, encA, fu] using hu.fr hw fw
    | 1, _ => simpa [nth, encA, fv] using hv.fr hw fw
  simp [ir134, hu.len, hv.len, unionR, h1, h2, show ¬ (200 : Int) < l.length by omega, show ¬ (200 : Int) < m.length by omega, wsem0_bsl2 fu.1 fv.1]
  refine WC.of (c154 D.d154 hw.new o3.sl rfl el (by simp; omega) (by simp)) ?_
  rintro r H1 ⟨f1, m1⟩
  simp at m1
  simp
  refine WC.of (c162 D.d162 f1.wf m1.sl (by simp; omega)) ?_
  rintro r H2 ⟨f2, m2⟩
  simp
  exact ⟨(fw.trans f1).trans f2, m2.mono (fw.trans f1).next⟩
end Go.Am
