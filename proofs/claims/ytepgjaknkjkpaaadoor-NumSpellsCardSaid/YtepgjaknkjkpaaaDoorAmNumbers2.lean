/- The law of scalars sorted by their numbers: the program's sort, and the law. -/
import Derived.Test.YtepgjaknkjkpaaaDoorAmNumbers
set_option linter.unusedVariables false
set_option linter.unusedSimpArgs false
namespace Go.Am
variable {T : Tab}

theorem c147 (D : D147 T) {H : AHeap} (hw : WF H) {v : AV} {l : List Scal} {back : Bool} (hv : Sl encC 4 H v l) :
    Calls T 147 [v, .bool back] H fun r H' => Fr H H' ∧ ∃ a, r = .tup [a, .int .i64 (numbersR l back).2] ∧ Made encC 4 H.next H' a (numbersR l back).1 := by
  refine Calls.fn D.pr D.fn ?_
  have f0 : Fr H (H.new [.bool back]) := hw.fr_new
  have bx : Box (H.new [.bool back]) H.next H.next [.bool back] := Box.new
  have hv0 := hv.fr hw f0
  simp [ir147, AV.cells, AV.cell, hv0.len]
  refine WC.of (c148 D.d148) ?_
  rintro r K0 ⟨rfl, rfl⟩
  by_cases h1 : 200 < l.length
  · have e0 : numbersR l back = ([], 3) := by
      have : errS l = 3 := by unfold errS; rw [if_pos h1]
      unfold numbersR; rw [this]; rfl
    rw [e0]
    simp [show (200 : Int) < l.length by omega]
    exact ⟨f0, .nil⟩
  have eS : errS l = errL l := by unfold errS; rw [if_neg h1]
  simp [show ¬ (200 : Int) < l.length by omega, hv0.len]
  refine W_loop (fun (i : Nat) e K => Fr (H.new [.bool back]) K ∧ e 0 = v ∧ e 3 = .ptr (some (H.next, 0)) ∧ e 21 = v ∧ e 22 = .int .i64 l.length ∧ ∃ j : Nat, i + j = l.length ∧ e 23 = .int .i64 j ∧ errL l = errL (l.drop j) ∧ ∃ ov, e 7 = ov ∧ Made encP 5 (H.next + 1) K ov ((l.map pairOf).take j)) id l.length ?_ ?_
  · exact ⟨.refl f0.wf, by simp, by simp, by simp, by simp, 0, by simp, by simp, by simp, .slc none 0 0 none, by simp, .nil⟩
  · rintro i e K ⟨fr, h0, h3, h21, h22, j, hj, h23, he, ov, h7, mo⟩
    have hn0 : H.next + 1 ≤ K.next := fr.next
    have fH := f0.trans fr
    have hv' := hv.fr hw fH
    simp [h22, h23]
    refine WB.bool ?_ ?_
    · intro hlt
      simp at hlt
      have lv := hv'.ldA (i := (j : Int)) (by omega) (by omega) rfl
      rw [drop_nthG hlt, errL] at he
      have et : (l.map pairOf).take (j + 1) = (l.map pairOf).take j ++ [pairOf (nth l (j : Int))] := by rw [← List.map_take, take_nth hlt, List.map_append, List.map_take]; rfl
      generalize nth l (j : Int) = x at *
      have hz : ([.int .i64 0, .int .i64 0, .str [], .bool false] : List AV).all AV.cell = true := by simp [AV.cell]
      obtain ⟨K1, s1, s2, s3, s4, s5⟩ := (Box.new (H := K) (cs := [.int .i64 0, .int .i64 0, .str [], .bool false])).stA fr.wf.new (n := 4) (ds := [.int .i64 x.kind, .int .i64 x.n, .str x.s, .bool x.taint]) rfl rfl (scal_cells x)
      have k1 : Keeps (fun g => K.next ≤ g) K K1 := fr.wf.keeps_new.trans (s4.mono fun g hg => by omega)
      have f1 : Fr K K1 := ⟨s2, k1⟩
      have hn1 : K1.next = K.next + 1 := s5
      have lA := s3.ldA (n := 4) rfl
      simp (disch := omega) [h0, h3, h21, h22, h23, hv'.ia, lv, AV.cells, AV.cell, s1, lA]
      refine WC.of (c170 D.d170 s2 (x := x)) ?_
      rintro r K2 ⟨f2, rfl⟩
      have bx2 := s3.keeps s2 f2.keeps (by omega)
      have lA2 := bx2.ldA (n := 4) rfl
      by_cases hvx : validB x = 0
      · rw [if_neg (by simp [hvx])] at he
        rw [numR_ok hvx]
        have f12 := f1.trans f2
        have mo2 := mo.keeps fr.wf f12.keeps (fun g _ h2 h3 => by omega)
        obtain ⟨v', K', q1, q2, q3, q4⟩ := push_a (bytes := 48) f2.wf (Nat.le_trans hn0 f12.next) mo2 (pairOf x) (by simp) rfl (allP [pairOf x] _ (by simp)) (by simp; omega) (by simp; omega)
        rw [← et] at q4
        simp only [AV.cells] at q1
        have hb := wsem0_bslA (n := 5) (H := K2) (z := [.int .i64 0, .int .i64 0, .str [], .bool false, .int .i64 0]) (cs := cellsP (pairOf x)) rfl rfl (allP [pairOf x] _ (by simp)) (by simp)
        have hbld : psem (.bld [(.int .i64 0),(.int .i64 0),(.str []),(.bool false),(.int .i64 0)] [(0,4),(4,1)]) [.agg [.int .i64 x.kind, .int .i64 x.n, .str x.s, .bool x.taint], .int .i64 (numV x)] = some (.agg (cellsP (pairOf x))) := by
          simp [psem_bld', fill, splice, AV.cells, AV.cell, cellsP, pairOf]
        simp
        simp (disch := omega) [h0, h3, h7, h21, h22, h23, lA2, hbld, hb, q1, wrap64]
        have fK' : Fr (H.new [.bool back]) K' := (fr.trans f12).step q2 q3 (fun g h => h)
        exact ⟨i - 1, by omega, fK', j + 1, by omega, by omega, he, by simpa using q4⟩
      · rw [if_pos hvx] at he
        have e0 : numbersR l back = ([], validB x) := by unfold numbersR; rw [eS, he, if_pos hvx]
        rw [numR_bad hvx, e0]
        simp [hvx]
        exact ⟨fH.trans (f1.trans f2), .nil⟩
    · intro hlt
      simp at hlt
      rw [List.drop_eq_nil_of_le (by omega), errL] at he
      rw [List.take_of_length_le (by simp; omega)] at mo
      have e0 : numbersR l back = ((isort (ordC (l.map numV) back) (rangeI l.length)).map (nth l), 0) := by unfold numbersR; rw [eS, he]; rfl
      rw [e0, ← sorted_pairs]
      have bxK : Box K H.next H.next [.bool back] := bx.keeps f0.wf fr.keeps (by show ¬ H.next + 1 ≤ H.next; omega)
      have hc : CmpOk T encP 172 [.ptr (some (H.next, 0))] K.next (fun _ => False) (fun (_ : Unit) X => Box X H.next H.next [.bool back]) (pureC (cmpP back)) (fun _ => True) (fun _ => 0) (2 ^ 60) := by
        refine ⟨fun s x y => by simp, fun g hg => hg.elim, ?_, ?_⟩
        · intro s X x y _ _ _ hwX _ hci
          refine (c172 D.d172 hwX hci x y).imp ?_
          rintro r X' ⟨rfl, rfl⟩
          have k1 : Keeps (fun _ => False) X (X.new (cellsP x)) := hwX.keeps_new
          have k2 : Keeps (fun _ => False) (X.new (cellsP x)) ((X.new (cellsP x)).new (cellsP y)) := hwX.new.keeps_new
          exact ⟨rfl, hwX.new.new, (hci.keeps hwX k1 (by simp)).keeps hwX.new k2 (by simp), k1.trans k2⟩
        · intro s X X' hwX hnX hci hk
          exact hci.keeps hwX hk (by omega)
      have hmul : l.length * (l.length + 1) ≤ 200 * 201 := Nat.mul_le_mul (by omega) (by omega)
      have rd : Rd (fun _ => False) encP 5 K ov (l.map pairOf) := (mo.sl.rd fr.wf).mono fun g h => h.elim
      simp [h3, h7]
      refine WC.of (c171 D.d171 hc l.length (l.map pairOf) ov K () (by simp) (by omega) (by simp; omega) fr.wf (Nat.le_refl _) bxK rd (fun x hx => trivial)) ?_
      rintro pv H1 ⟨w1, m1, _, k1⟩
      have f1 : Fr K H1 := ⟨w1, k1.mono fun g hg => hg.elim (fun h => h.elim) id⟩
      rw [sortN_isort (gt_pairs back) _ _ (by simp)] at m1
      have hpl := (isort_perm (cmpP back) (l.map pairOf)).length_eq
      rw [List.length_map] at hpl
      generalize isort (cmpP back) (l.map pairOf) = ps at *
      have fH1 := fH.trans f1
      simp [m1.sl.len]
      refine W_loop (fun (i : Nat) e X => Fr H1 X ∧ e 45 = pv ∧ e 46 = .int .i64 ps.length ∧ ∃ j : Nat, i + j = ps.length ∧ e 47 = .int .i64 j ∧ ∃ ov, e 12 = ov ∧ Made encC 4 H1.next X ov ((ps.map PairE.x).take j)) id ps.length ?_ ?_
      · exact ⟨.refl w1, by simp, by simp, 0, by simp, by simp, .slc none 0 0 none, by simp, .nil⟩
      · rintro i e X ⟨fX, h45, h46, j, hj, h47, ov, h12, mo⟩
        have mp := m1.sl.fr w1 fX
        simp [h46, h47]
        refine WB.bool ?_ ?_
        · intro hlt
          simp at hlt
          have lv := mp.ldA (i := (j : Int)) (by omega) (by omega) rfl
          have et : (ps.map PairE.x).take (j + 1) = (ps.map PairE.x).take j ++ [(nth ps (j : Int)).x] := by rw [← List.map_take, take_nth hlt, List.map_append, List.map_take]; rfl
          generalize nth ps (j : Int) = p at *
          obtain ⟨K1, s1, s2, s3, s4, s5⟩ := (Box.new (H := X) (cs := [.int .i64 0, .int .i64 0, .str [], .bool false, .int .i64 0])).stA fX.wf.new (n := 5) (ds := cellsP p) rfl rfl (allP [p] p (by simp))
          have k1 : Keeps (fun g => X.next ≤ g) X K1 := fX.wf.keeps_new.trans (s4.mono fun g hg => by omega)
          have f1 : Fr X K1 := ⟨s2, k1⟩
          have lP := s3.ldP (n := 4) (by simp [cellsP])
          rw [show (cellsP p).take 4 = [.int .i64 p.x.kind, .int .i64 p.x.n, .str p.x.s, .bool p.x.taint] from rfl] at lP
          have mo2 := mo.keeps fX.wf k1 (fun g _ h2 h3 => by omega)
          obtain ⟨v', K', q1, q2, q3, q4⟩ := push_a (bytes := 40) s2 (Nat.le_trans fX.next f1.next) mo2 p.x (by simp) rfl (scal_cells _) (by simp; omega) (by simp; omega)
          rw [← et] at q4
          simp only [AV.cells] at q1
          have hb := wsem0_bslA (n := 4) (H := K1) (z := [.int .i64 0, .int .i64 0, .str [], .bool false]) (cs := [.int .i64 p.x.kind, .int .i64 p.x.n, .str p.x.s, .bool p.x.taint]) rfl rfl (scal_cells p.x) (by simp)
          simp (disch := omega) [h45, h46, h47, h12, mp.ia, lv, AV.cells, AV.cell, s1, lP, hb, q1, wrap64]
          exact ⟨i - 1, by omega, (fX.trans f1).step q2 q3 (fun g h => h), j + 1, by omega, by omega, by simpa using q4⟩
        · intro hlt
          simp at hlt
          rw [List.take_of_length_le (by simp; omega)] at mo
          simp [h12]
          exact ⟨fH1.trans fX, mo.mono fH1.next⟩

theorem numbersR_len (l : List Scal) (back : Bool) : (numbersR l back).1.length ≤ 200 := by
  unfold numbersR
  split
  · simp
  · rename_i h
    have hlen : l.length ≤ 200 := by
      unfold errS at h; split at h
      · simp at h
      · omega
    have := (isort_perm (ordC (l.map numV) back) (rangeI l.length)).length_eq
    rw [rangeI_len] at this
    simp only [List.length_map]; omega

theorem c111 (D : D111 T) {H : AHeap} (hw : WF H) {v : AV} {l : List Scal} {back : Bool} (hv : Sl encC 4 H v l) (hl : l.length < 2 ^ 63) : Calls T 111 [v, .bool back] H fun r _ => r = .bool true := by
  refine Calls.fn D.pr D.fn ?_
  have known : ∀ {X : AHeap}, WF X → Calls T 112 [] X fun v _ => v = .bool true := fun h => c112 D.d112 h
  simp [ir111]
  refine WC.of (c145 D.d145 hv hl) ?_
  rintro r H ⟨rfl, b, rfl⟩
  cases b with
  | true =>
    simp
    refine WC.of (known hw) ?_
    rintro v H' rfl
    simp
  | false =>
    simp
    refine WC.of (c146 D.d146 hw hv (back := back)) ?_
    rintro r H1 ⟨f1, a, rfl, m1⟩
    simp
    refine WC.of (c147 D.d147 f1.wf (hv.fr hw f1) (back := back)) ?_
    rintro r H2 ⟨f2, b, rfl, m2⟩
    have := numbersR_len l back
    simp
    refine WC.of (c117 D.d117 m2.sl (m1.sl.fr f1.wf f2) (by omega)) ?_
    rintro r H3 ⟨rfl, rfl⟩
    simp
    refine WC.of (known f2.wf) ?_
    rintro v H' rfl
    simp

abbrev shC : Sh := .consA (.int .i64) (.consA (.int .i64) (.consA .str (.consA .bool .nilA)))
theorem Good.scal {H : AHeap} {cs : List AV} (h : Good H shC cs) : ∃ x : Scal, cs = (encC x).cells ∧ x.s.length ≤ maxLen ∧ (Lit.int .i64 x.kind).wf = true ∧ (Lit.int .i64 x.n).wf = true := by
  obtain ⟨c1, d1, rfl, ⟨k, rfl, hk⟩, c2, d2, rfl, ⟨n, rfl, hn⟩, c3, d3, rfl, ⟨s, rfl, hs⟩, c4, d4, rfl, ⟨b, rfl⟩, rfl⟩ := h
  exact ⟨⟨k, n, s, b⟩, rfl, hs, hk, hn⟩
theorem GoodV.scals {H : AHeap} {a : AV} (h : GoodV H (.slice shC) a) : ∃ l : List Scal, Sl encC 4 H a l ∧ l.length ≤ maxLen ∧ ∀ x ∈ l, x.s.length ≤ maxLen := by
  have h : Good H (.slice shC) [a] := h
  obtain ⟨a', l, h1, h2, h3, h4⟩ := h
  cases h1
  obtain ⟨l', q1, q2, q3⟩ := h3.view (enc := encC) (fun x hx => by obtain ⟨y, e, _⟩ := (h4 x hx).scal; exact ⟨y, e⟩)
  refine ⟨l', q1, by omega, fun n hn => ?_⟩
  obtain ⟨m, e, hw, _⟩ := (h4 (encC n).cells (by rw [q3]; exact List.mem_map_of_mem (f := fun y => (encC y).cells) hn)).scal
  simp only [AV.cells] at e
  cases m
  cases n
  simp at e
  obtain ⟨_, _, rfl, _⟩ := e
  exact hw

theorem law111 (D : D111 T) {K : AHeap} {as : List AV} (hw : WF K) (hg : Goods K [.slice shC, .bool] as) : Calls T 111 as K fun v _ => v = .bool true := by
  obtain ⟨a, r, rfl, g1, b, r2, rfl, g2, rfl⟩ := hg
  obtain ⟨l, hl, hm, _⟩ := g1.scals
  obtain ⟨b, rfl⟩ := g2.bool
  have e : maxLen = 2 ^ 63 - 1 := rfl
  exact c111 D hw hl (by omega)
end Go.Am
