/- Contracts: what is at places of a list. -/
import Derived.Test.YtepgjaknkjkpaaaDoorAmKnown
set_option linter.unusedVariables false
set_option linter.unusedSimpArgs false
namespace Go.Am
variable {T : Tab}

structure Scal where
  kind : Int
  n : Int
  s : List UInt8
  taint : Bool
  deriving DecidableEq, Inhabited

abbrev encC (x : Scal) : AV := .agg [.int .i64 x.kind, .int .i64 x.n, .str x.s, .bool x.taint]

theorem eqCells_scal (x y : Scal) : eqCells [.int, .int, .str, .bool] [.int .i64 x.kind, .int .i64 x.n, .str x.s, .bool x.taint] [.int .i64 y.kind, .int .i64 y.n, .str y.s, .bool y.taint] = some (decide (x = y)) := by
  obtain ⟨a, b, c, d⟩ := x
  obtain ⟨a', b', c', d'⟩ := y
  simp only [eqCells, if_true, Scal.mk.injEq]
  by_cases h1 : a = a' <;> by_cases h2 : b = b' <;> by_cases h3 : c = c' <;> by_cases h4 : d = d' <;> simp [h1, h2, h3, h4]

theorem c114 (D : D114 T) {H : AHeap} {v : AV} {l : List (List UInt8)} (hv : Sl encS 1 H v l) (hl : l.length < 2 ^ 63) : Calls T 114 [v] H fun r H' => H' = H ∧ ∃ b, r = .bool b := by
  refine Calls.fn D.pr D.fn ?_
  simp [ir114, hv.len]
  refine W_loop (fun (i : Nat) e H' => H' = H ∧ e 0 = v ∧ (∃ n, e 3 = .int .i64 n) ∧ ∃ j : Nat, i + j = l.length ∧ e 4 = .int .i64 j) id l.length ?_ ?_
  · simp
  · rintro i e H' ⟨rfl, h0, ⟨n, h3⟩, j, hj, h4⟩
    simp [h0, h3, h4, hv.len]
    refine WB.bool ?_ ?_
    · intro h2
      simp at h2
      simp (disch := omega) [h0, h3, h4, hv.ia, hv.ld, wrap64]
      exact ⟨i - 1, by omega, j + 1, by omega, by omega⟩
    · intro h2
      simp [h3]
      omega

theorem c117 (D : D117 T) {H : AHeap} {u v : AV} {l m : List Scal} (hu : Sl encC 4 H u l) (hv : Sl encC 4 H v m) (hl : l.length < 2 ^ 62) : Calls T 117 [u, v] H fun r H' => H' = H ∧ r = .bool (decide (l = m)) := by
  refine Calls.fn D.pr D.fn ?_
  simp [ir117, hu.len, hv.len]
  refine WB.bool ?_ ?_
  · intro h
    simp at h ⊢
    intro e; subst e; simp at h
  · intro h
    simp at h ⊢
    refine W_loop (fun (i : Nat) e H' => H' = H ∧ e 0 = u ∧ e 1 = v ∧ ∃ j : Nat, i + j = l.length ∧ e 5 = .int .i64 j ∧ l.take j = m.take j) id l.length ?_ ?_
    · simp
    · rintro i e H' ⟨rfl, h0, h1, j, hj, h5, ht⟩
      simp [h0, h1, h5, hu.len]
      refine WB.bool ?_ ?_
      · intro h2
        simp at h2
        have lu := hu.ldA (i := (j : Int)) (by omega) (by omega) rfl
        have lv := hv.ldA (i := (j : Int)) (by omega) (by omega) rfl
        simp (disch := omega) [h0, h1, h5, hu.ia, hv.ia, lu, lv, eqCells_scal]
        refine WB.bool ?_ ?_
        · intro h3
          simp at h3 ⊢
          rintro rfl
          exact h3 rfl
        · intro h3
          simp at h3
          simp (disch := omega) [h0, h1, h5, wrap64]
          refine ⟨i - 1, by omega, j + 1, by omega, by omega, ?_⟩
          rw [take_nth (by omega), take_nth (by omega), ht, h3]
      · intro h2
        simp at h2 ⊢
        have e1 : l.length ≤ j := by omega
        rw [List.take_of_length_le (by omega), List.take_of_length_le (by omega)] at ht
        exact ht

def at1 (l : List (List UInt8)) (p : Int) : Scal :=
  if p < 0 then (if p + l.length < 0 then ⟨0, 0, [], false⟩ else ⟨2, 0, nth l (p + l.length), false⟩)
  else if p < l.length then ⟨2, 0, nth l p, false⟩ else ⟨0, 0, [], false⟩
def sliceR (l : List (List UInt8)) (places : List Int) : List Scal × Int :=
  if 200 < l.length ∨ 200 < places.length then ([], 3) else (places.map (at1 l), 0)

theorem c116 (D : D116 T) {H : AHeap} (hw : WF H) {u v : AV} {l : List (List UInt8)} {m : List Int} (hu : Sl encS 1 H u l) (hv : Sl encI 1 H v m) (hl : l.length < 2 ^ 63) (hm : m.length < 2 ^ 63) (hwf : ∀ p ∈ m, -9223372036854775808 ≤ p ∧ p < 9223372036854775808) :
    Calls T 116 [u, v] H fun r H' => Fr H H' ∧ ∃ sv, r = .tup [sv, .int .i64 (sliceR l m).2] ∧ Made encC 4 H.next H' sv (sliceR l m).1 := by
  refine Calls.fn D.pr D.fn ?_
  by_cases h1 : 200 < l.length
  · simp [ir116, hu.len, hv.len, sliceR, h1, show (200 : Int) < l.length by omega]
    exact ⟨.refl hw, .nil⟩
  by_cases h2 : 200 < m.length
  · simp [ir116, hu.len, hv.len, sliceR, h1, h2, show ¬ (200 : Int) < l.length by omega, show (200 : Int) < m.length by omega]
    exact ⟨.refl hw, .nil⟩
  simp [ir116, hu.len, hv.len, sliceR, h1, h2, show ¬ (200 : Int) < l.length by omega, show ¬ (200 : Int) < m.length by omega]
  refine W_loop (fun (i : Nat) e K => Fr H K ∧ e 0 = u ∧ e 17 = v ∧ e 18 = .int .i64 m.length ∧ ∃ j : Nat, i + j = m.length ∧ e 19 = .int .i64 j ∧ ∃ ov, e 6 = ov ∧ Made encC 4 H.next K ov ((m.take j).map (at1 l))) id m.length ?_ ?_
  · refine ⟨.refl hw, by simp, by simp, by simp, 0, by simp, by simp, .slc none 0 0 none, by simp, .nil⟩
  · rintro i e K ⟨fr, h0, h17, h18, j, hj, h19, ov, h6, mo⟩
    have hu' := hu.fr hw fr
    have hv' := hv.fr hw fr
    simp [h18, h19]
    refine WB.bool ?_ ?_
    · intro hlt
      simp at hlt
      have lv := hv'.ld (i := (j : Int)) (by omega) (by omega)
      have ep : nth m (j : Int) = m[j] := by simp [nth, List.getElem?_eq_getElem hlt]
      have hp := hwf (nth m (j : Int)) (by rw [ep]; exact List.getElem_mem _)
      have et := take_nth hlt
      generalize nth m (j : Int) = p at lv hp et
      have step : ∀ x : Scal, at1 l p = x → ∃ v' K', wsem0 (.bsl 4 1 [.int .i64 0, .int .i64 0, .str [], .bool false] [(0, 4)]) [encC x] K = some (.slc (some (K.next, 0)) 4 1 (some 1), K.new (encC x).cells) ∧
          wsem0 (.app 4 40) [ov, .slc (some (K.next, 0)) 4 1 (some 1)] (K.new (encC x).cells) = some (v', K') ∧ Fr H K' ∧ Made encC 4 H.next K' v' ((m.take (j + 1)).map (at1 l)) := by
        rintro x rfl
        obtain ⟨v', K', q1, q2, q3, q4⟩ := push_a (bytes := 40) fr.wf fr.next mo (at1 l p) (by simp) rfl (by simp [AV.cells, AV.cell]) (by simp; omega) (by simp; omega)
        refine ⟨v', K', wsem0_bslA rfl rfl (by simp [AV.cells, AV.cell]) (by simp), q1, fr.step q2 q3 (fun g h => h), ?_⟩
        rw [et, List.map_append]; exact q4
      have fin : ∀ v' K', Fr H K' → Made encC 4 H.next K' v' ((m.take (j + 1)).map (at1 l)) → True := fun _ _ _ _ => trivial
      by_cases c1 : p < 0
      · by_cases c2 : p + l.length < 0
        · obtain ⟨v', K', b1, b2, b3, b4⟩ := step ⟨0, 0, [], false⟩ (by simp [at1, c1, c2])
          simp only [AV.cells] at b1 b2
          simp (disch := omega) [-List.map_take, h0, h17, h18, h19, h6, hv'.ia, lv, hu'.len, c1, c2, wrap64, psem_bld', fill, b1, b2]
          exact ⟨i - 1, by omega, b3, j + 1, by omega, by simp, by simpa using b4⟩
        · have lu := hu'.ld (i := p + l.length) (by omega) (by omega)
          obtain ⟨v', K', b1, b2, b3, b4⟩ := step ⟨2, 0, nth l (p + l.length), false⟩ (by simp [at1, c1, c2])
          simp only [AV.cells] at b1 b2
          simp (disch := omega) [-List.map_take, h0, h17, h18, h19, h6, hv'.ia, lv, hu'.len, hu'.ia, lu, c1, c2, show ¬ ((l.length : Int) ≤ p + l.length) by omega, wrap64, psem_bld', fill, splice, AV.cells, AV.cell, b1, b2]
          exact ⟨i - 1, by omega, b3, j + 1, by omega, by simp, by simpa using b4⟩
      · by_cases c2 : p < l.length
        · have lu := hu'.ld (i := p) (by omega) (by omega)
          obtain ⟨v', K', b1, b2, b3, b4⟩ := step ⟨2, 0, nth l p, false⟩ (by simp [at1, c1, c2])
          simp only [AV.cells] at b1 b2
          simp (disch := omega) [-List.map_take, h0, h17, h18, h19, h6, hv'.ia, lv, hu'.len, hu'.ia, lu, c1, show ¬ ((l.length : Int) ≤ p) by omega, wrap64, psem_bld', fill, splice, AV.cells, AV.cell, b1, b2]
          exact ⟨i - 1, by omega, b3, j + 1, by omega, by simp, by simpa using b4⟩
        · obtain ⟨v', K', b1, b2, b3, b4⟩ := step ⟨0, 0, [], false⟩ (by simp [at1, c1, c2])
          simp only [AV.cells] at b1 b2
          simp (disch := omega) [-List.map_take, h0, h17, h18, h19, h6, hv'.ia, lv, hu'.len, c1, show ((l.length : Int) ≤ p) by omega, wrap64, psem_bld', fill, b1, b2]
          exact ⟨i - 1, by omega, b3, j + 1, by omega, by simp, by simpa using b4⟩
    · intro hlt
      simp at hlt
      have : j = m.length := by omega
      subst this
      simp [h6]
      refine ⟨fr, ?_⟩
      simpa using mo

theorem c115 (D : D115 T) {H : AHeap} (hw : WF H) {u v : AV} {l : List (List UInt8)} {m : List Int} (hu : Sl encS 1 H u l) (hv : Sl encI 1 H v m) (hl : l.length < 2 ^ 63) (hm : m.length < 2 ^ 63) (hwf : ∀ p ∈ m, -9223372036854775808 ≤ p ∧ p < 9223372036854775808) :
    Calls T 115 [u, v] H fun r H' => Fr H H' ∧ ∃ sv, r = .tup [sv, .int .i64 (sliceR l m).2] ∧ Made encC 4 H.next H' sv (sliceR l m).1 := by
  refine Calls.fn D.pr D.fn ?_
  by_cases h1 : 200 < l.length
  · simp [ir115, hu.len, hv.len, sliceR, h1, show (200 : Int) < l.length by omega]
    exact ⟨.refl hw, .nil⟩
  by_cases h2 : 200 < m.length
  · simp [ir115, hu.len, hv.len, sliceR, h1, h2, show ¬ (200 : Int) < l.length by omega, show (200 : Int) < m.length by omega]
    exact ⟨.refl hw, .nil⟩
  simp [ir115, hu.len, hv.len, sliceR, h1, h2, show ¬ (200 : Int) < l.length by omega, show ¬ (200 : Int) < m.length by omega]
  refine W_loop (fun (i : Nat) e K => Fr H K ∧ e 0 = u ∧ e 1 = v ∧ ∃ j : Nat, i + j = m.length ∧ e 7 = .int .i64 j ∧ ∃ ov, e 6 = ov ∧ Made encC 4 H.next K ov ((m.map (at1 l)).take j)) id m.length ?_ ?_
  · refine ⟨.refl hw, by simp, by simp, 0, by simp, by simp, .slc none 0 0 none, by simp, .nil⟩
  · rintro i e K ⟨fr, h0, h1', j, hj, h7, ov, h6, mo⟩
    have hu' := hu.fr hw fr
    have hv' := hv.fr hw fr
    simp [h1', h7, hv'.len]
    refine WB.bool ?_ ?_
    · intro hlt
      simp at hlt
      have lv := hv'.ld (i := (j : Int)) (by omega) (by omega)
      have ep : nth m (j : Int) = m[j] := by simp [nth, List.getElem?_eq_getElem hlt]
      have hp := hwf (nth m (j : Int)) (by rw [ep]; exact List.getElem_mem _)
      have et : (m.map (at1 l)).take (j + 1) = (m.map (at1 l)).take j ++ [at1 l (nth m (j : Int))] := by rw [← List.map_take, take_nth hlt, List.map_append, List.map_take]; rfl
      generalize nth m (j : Int) = p at lv hp et
      have hz : ([.int .i64 0, .int .i64 0, .str [], .bool false] : List AV).all AV.cell = true := by simp [AV.cell]
      obtain ⟨K1, s1, s2, s3, s4, s5⟩ := (Box.new (H := K) (cs := [.int .i64 0, .int .i64 0, .str [], .bool false])).stA fr.wf.new (n := 4) (ds := [.int .i64 0, .int .i64 0, .str [], .bool false]) rfl rfl hz
      have k1 : Keeps (fun g => K.next ≤ g) K K1 := fr.wf.keeps_new.trans (s4.mono fun g hg => by omega)
      have fin : ∀ (x : Scal) (X : AHeap), at1 l p = x → WF X → Keeps (fun g => K.next ≤ g) K X → ∃ v' K', wsem0 (.bsl 4 1 [.int .i64 0, .int .i64 0, .str [], .bool false] [(0, 4)]) [encC x] X = some (.slc (some (X.next, 0)) 4 1 (some 1), X.new (encC x).cells) ∧
          wsem0 (.app 4 40) [ov, .slc (some (X.next, 0)) 4 1 (some 1)] (X.new (encC x).cells) = some (v', K') ∧ Fr H K' ∧ Made encC 4 H.next K' v' ((m.map (at1 l)).take (j + 1)) := by
        rintro x X rfl wX kX
        obtain ⟨v', K', q1, q2, q3, q4⟩ := push_a (bytes := 40) wX (Nat.le_trans fr.next kX.next) (mo.keeps fr.wf kX fun g _ hg hd => by omega) (at1 l p) (by simp) rfl (by simp [AV.cells, AV.cell]) (by simp; omega) (by simp; omega)
        refine ⟨v', K', wsem0_bslA rfl rfl (by simp [AV.cells, AV.cell]) (by simp), q1, (fr.step wX kX fun g hg => Nat.le_trans fr.next hg).step q2 q3 (fun g h => h), ?_⟩
        rw [et]; exact q4
      have hu1 : Sl encS 1 K1 u l := hu'.fr fr.wf ⟨s2, k1⟩
      by_cases c1 : p < 0
      · by_cases c2 : p + l.length < 0
        · obtain ⟨v', K', b1, b2, b3, b4⟩ := fin ⟨0, 0, [], false⟩ K1 (by simp [at1, c1, c2]) s2 k1
          simp only [AV.cells] at b1 b2
          simp (disch := omega) [h0, h1', h7, h6, hv'.ia, lv, hu'.len, c1, show ¬ 0 ≤ p + (l.length : Int) by omega, wrap64, psem_bld', fill, AV.cells, AV.cell, s1, s3.ldA (n := 4) rfl, b1, b2]
          exact ⟨i - 1, by omega, b3, j + 1, by omega, by simp, by simpa using b4⟩
        · have lu := hu1.ld (i := p + l.length) (by omega) (by omega)
          obtain ⟨K2, t1, t2, t3, t4, t5⟩ := s3.stA s2 (n := 4) (ds := [.int .i64 2, .int .i64 0, .str (nth l (p + l.length)), .bool false]) rfl rfl (by simp [AV.cell])
          obtain ⟨v', K', b1, b2, b3, b4⟩ := fin ⟨2, 0, nth l (p + l.length), false⟩ K2 (by simp [at1, c1, c2]) t2 (k1.trans (t4.mono fun g hg => by omega))
          simp only [AV.cells] at b1 b2
          simp (disch := omega) [h0, h1', h7, h6, hv'.ia, lv, hu'.len, hu1.len, hu1.ia, lu, c1, show 0 ≤ p + (l.length : Int) by omega, show p + (l.length : Int) < l.length by omega, wrap64, psem_bld', fill, splice, AV.cells, AV.cell, s1, t1, t3.ldA (n := 4) rfl, b1, b2]
          exact ⟨i - 1, by omega, b3, j + 1, by omega, by simp, by simpa using b4⟩
      · by_cases c2 : p < l.length
        · have lu := hu1.ld (i := p) (by omega) (by omega)
          obtain ⟨K2, t1, t2, t3, t4, t5⟩ := s3.stA s2 (n := 4) (ds := [.int .i64 2, .int .i64 0, .str (nth l p), .bool false]) rfl rfl (by simp [AV.cell])
          obtain ⟨v', K', b1, b2, b3, b4⟩ := fin ⟨2, 0, nth l p, false⟩ K2 (by simp [at1, c1, c2]) t2 (k1.trans (t4.mono fun g hg => by omega))
          simp only [AV.cells] at b1 b2
          simp (disch := omega) [h0, h1', h7, h6, hv'.ia, lv, hu'.len, hu1.len, hu1.ia, lu, c1, c2, show 0 ≤ p by omega, wrap64, psem_bld', fill, splice, AV.cells, AV.cell, s1, t1, t3.ldA (n := 4) rfl, b1, b2]
          exact ⟨i - 1, by omega, b3, j + 1, by omega, by simp, by simpa using b4⟩
        · obtain ⟨v', K', b1, b2, b3, b4⟩ := fin ⟨0, 0, [], false⟩ K1 (by simp [at1, c1, c2]) s2 k1
          simp only [AV.cells] at b1 b2
          simp (disch := omega) [h0, h1', h7, h6, hv'.ia, lv, hu'.len, hu1.len, c1, c2, show 0 ≤ p by omega, wrap64, psem_bld', fill, AV.cells, AV.cell, s1, s3.ldA (n := 4) rfl, b1, b2]
          exact ⟨i - 1, by omega, b3, j + 1, by omega, by simp, by simpa using b4⟩
    · intro hlt
      simp at hlt
      have : j = m.length := by omega
      subst this
      simp [h6]
      refine ⟨fr, ?_⟩
      rwa [List.take_of_length_le (by simp)] at mo

theorem c104 (D : D104 T) {H : AHeap} (hw : WF H) {u v : AV} {l : List (List UInt8)} {m : List Int} (hu : Sl encS 1 H u l) (hv : Sl encI 1 H v m) (hl : l.length < 2 ^ 63) (hm : m.length < 2 ^ 63) (hwf : ∀ p ∈ m, -9223372036854775808 ≤ p ∧ p < 9223372036854775808) :
    Calls T 104 [u, v] H fun r _ => r = .bool true := by
  refine Calls.fn D.pr D.fn ?_
  simp [ir104]
  refine WC.of (c114 D.d114 hu hl) ?_
  rintro r H' ⟨rfl, b, rfl⟩
  have known : ∀ {X : AHeap}, WF X → Calls T 112 [] X fun v _ => v = .bool true := fun h => c112 D.d112 h
  cases b with
  | true =>
    simp
    refine WC.of (known hw) ?_
    rintro v H' rfl
    simp
  | false =>
    simp [hv.len]
    refine WB.bool ?_ ?_
    · intro h
      simp
      refine WC.of (known hw) ?_
      rintro v H' rfl
      simp
    · intro h
      simp at h
      simp
      refine WC.of (c115 D.d115 hw hu hv hl hm hwf) ?_
      rintro r H1 ⟨f1, s1, rfl, m1⟩
      simp
      refine WC.of (c116 D.d116 f1.wf (hu.fr hw f1) (hv.fr hw f1) hl hm hwf) ?_
      rintro r H2 ⟨f2, s2, rfl, m2⟩
      simp
      refine WC.of (c117 D.d117 m2.sl (m1.sl.fr f1.wf f2) (by unfold sliceR; split <;> simp; omega)) ?_
      rintro r H3 ⟨rfl, rfl⟩
      simp
      refine WC.of (known f2.wf) ?_
      rintro v H' rfl
      simp

theorem wf64 {n : Int} (h : (Lit.int .i64 n).wf = true) : -9223372036854775808 ≤ n ∧ n < 9223372036854775808 := by
  simp [Lit.wf, IntKind.min, IntKind.max, IntKind.signed, IntKind.bits] at h
  omega

theorem law104 (D : D104 T) {K : AHeap} {as : List AV} (hw : WF K) (hg : Goods K [.slice .str, .slice (.int .i64)] as) : Calls T 104 as K fun v _ => v = .bool true := by
  obtain ⟨a, r, rfl, g1, b, r2, rfl, g2, rfl⟩ := hg
  obtain ⟨l, hl, hm, _⟩ := g1.strs
  obtain ⟨m, hv, hm2, hwf⟩ := g2.ints
  have e : maxLen = 2 ^ 63 - 1 := rfl
  exact c104 D hw hl hv (by omega) (by omega) fun p hp => wf64 (hwf p hp)
end Go.Am
