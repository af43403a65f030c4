/- Contracts: Same of the program. -/
import Derived.Test.YtpdedphkjkhddaaAmRefJ
import Derived.Test.YtpdedphkjkhddaaAmHeapQ
set_option linter.unusedVariables false
set_option linter.unusedSimpArgs false
namespace Go.Am
variable {T : Tab}
theorem c365 (D : D365 T) {H : AHeap} {u v : AV} {l m : List Int} (hu : Sl encI 1 H u l) (hv : Sl encI 1 H v m) (hl : l.length < 2 ^ 62) : Calls T 365 [u, v] H fun r H' => H' = H ∧ r = .bool (decide (l = m)) := by
  refine Calls.fn D.pr D.fn ?_
  simp [ir365, hu.len, hv.len]
  refine WB.bool ?_ ?_
  · intro h
    simp at h ⊢
    intro e; subst e; simp at h
  · intro h
    simp at h
    simp [hu.len]
    refine W_loop (fun (i : Nat) e H' => H' = H ∧ e 0 = u ∧ e 1 = v ∧ e 12 = .int .i64 l.length ∧ ∃ j : Nat, i + j = l.length ∧ e 13 = .int .i64 j ∧ l.take j = m.take j) id l.length ?_ ?_
    · simp [h]
    · rintro i e H' ⟨rfl, h0, h1, h12, j, hj, h5, ht⟩
      simp [h0, h1, h5, h12]
      refine WB.bool ?_ ?_
      · intro h2
        simp at h2
        simp (disch := omega) [h0, h1, h5, h12, hu.ia, hv.ia, hu.ld, hv.ld]
        refine WB.bool ?_ ?_
        · intro h3
          simp at h3 ⊢
          rintro rfl
          exact h3 rfl
        · intro h3
          simp at h3
          simp (disch := omega) [h0, h1, h5, h12, wrap64]
          refine ⟨i - 1, by omega, j + 1, by omega, by omega, ?_⟩
          rw [take_nth (by omega), take_nth (by omega), ht, h3]
      · intro h2
        simp at h2 ⊢
        have e1 : l.length ≤ j := by omega
        rw [List.take_of_length_le (by omega), List.take_of_length_le (by omega)] at ht
        exact ht
theorem eqF (x y : Fld) : eqCells [.bool, .bool, .int] [.bool x.is, .bool x.weak, .int .i64 x.to] [.bool y.is, .bool y.weak, .int .i64 y.to] = some (decide (x = y)) := by
  obtain ⟨a, b, c⟩ := x
  obtain ⟨a', b', c'⟩ := y
  by_cases h1 : a = a' <;> by_cases h2 : b = b' <;> by_cases h3 : c = c' <;> simp [psem, eqCells, h1, h2, h3]
theorem eqG (x y : Fld) : eqCells [.int, .bool, .bool] [.int .i64 x.to, .bool x.is, .bool x.weak] [.int .i64 y.to, .bool y.is, .bool y.weak] = some (decide (x = y)) := by
  obtain ⟨a, b, c⟩ := x
  obtain ⟨a', b', c'⟩ := y
  by_cases h1 : a = a' <;> by_cases h2 : b = b' <;> by_cases h3 : c = c' <;> simp [psem, eqCells, h1, h2, h3]
theorem c384 (D : D384 T) {H : AHeap} {u v : AV} {l m : List Fld} (hu : Sl encF 3 H u l) (hv : Sl encF 3 H v m) (hl : l.length < 2 ^ 62) : Calls T 384 [u, v] H fun r H' => H' = H ∧ r = .bool (decide (l = m)) := by
  refine Calls.fn D.pr D.fn ?_
  simp [ir384, hu.len, hv.len]
  refine WB.bool ?_ ?_
  · intro h
    simp at h ⊢
    intro e; subst e; simp at h
  · intro h
    simp at h
    simp [hu.len]
    refine W_loop (fun (i : Nat) e H' => H' = H ∧ e 0 = u ∧ e 1 = v ∧ e 12 = .int .i64 l.length ∧ ∃ j : Nat, i + j = l.length ∧ e 13 = .int .i64 j ∧ l.take j = m.take j) id l.length ?_ ?_
    · simp [h]
    · rintro i e H' ⟨rfl, h0, h1, h12, j, hj, h5, ht⟩
      simp [h0, h1, h5, h12]
      refine WB.bool ?_ ?_
      · intro h2
        simp at h2
        have d1 := hu.ldA (i := (j : Int)) (by omega) (by omega) (cs := [.bool (nth l (j : Int)).is, .bool (nth l (j : Int)).weak, .int .i64 (nth l (j : Int)).to]) rfl
        have d2 := hv.ldA (i := (j : Int)) (by omega) (by omega) (cs := [.bool (nth m (j : Int)).is, .bool (nth m (j : Int)).weak, .int .i64 (nth m (j : Int)).to]) rfl
        simp (disch := omega) [h0, h1, h5, h12, hu.ia, hv.ia, d1, d2, eqF]
        refine WB.bool ?_ ?_
        · intro h3
          simp at h3 ⊢
          rintro rfl
          exact h3 rfl
        · intro h3
          simp at h3
          simp (disch := omega) [h0, h1, h5, h12, wrap64]
          refine ⟨i - 1, by omega, j + 1, by omega, by omega, ?_⟩
          rw [take_nth (by omega), take_nth (by omega), ht, h3]
      · intro h2
        simp at h2 ⊢
        have e1 : l.length ≤ j := by omega
        rw [List.take_of_length_le (by omega), List.take_of_length_le (by omega)] at ht
        exact ht
theorem c364 (D : D364 T) {H : AHeap} (hw : WF H) {u v : AV} {a c : Cel} (hu : Sl encF 3 H u a.fs) (hv : Sl encF 3 H v c.fs) (hl : a.fs.length < 2 ^ 62) :
    Calls T 364 [.agg [u, .bool a.w, .bool a.t, .bool a.e, .int .i64 a.n], .agg [v, .bool c.w, .bool c.t, .bool c.e, .int .i64 c.n]] H fun r K => Fr H K ∧ r = .bool (decide (a = c)) := by
  refine Calls.fn D.pr D.fn ?_
  have huc := hu.form.1
  have hvc := hv.form.1
  have ucs : u.cells = [u] := by cases u <;> simp_all [AV.cells, AV.cell]
  have b1 := Box.new (H := H) (cs := [u, .bool a.w, .bool a.t, .bool a.e, .int .i64 a.n])
  have f1 := hw.fr_new (cs := [u, .bool a.w, .bool a.t, .bool a.e, .int .i64 a.n])
  obtain ⟨X, hX⟩ : ∃ X, H.new [u, .bool a.w, .bool a.t, .bool a.e, .int .i64 a.n] = X := ⟨_, rfl⟩
  have nX : X.next = H.next + 1 := by rw [← hX]; rfl
  rw [hX] at b1 f1
  have b2 := Box.new (H := X) (cs := [v, .bool c.w, .bool c.t, .bool c.e, .int .i64 c.n])
  have f2 := f1.wf.fr_new (cs := [v, .bool c.w, .bool c.t, .bool c.e, .int .i64 c.n])
  obtain ⟨Y, hY⟩ : ∃ Y, X.new [v, .bool c.w, .bool c.t, .bool c.e, .int .i64 c.n] = Y := ⟨_, rfl⟩
  rw [hY] at b2 f2
  have b1' := b1.keeps f1.wf f2.keeps (by omega)
  have l0 : rsem (.ld 1 false) [.ptr (some (H.next, 0))] Y = some u := by simp [rsem, AHeap.ld, b1'.row]
  have l1 : rsem (.ld 1 false) [.ptr (some (H.next, 1))] Y = some (.bool a.w) := by simp [rsem, AHeap.ld, b1'.row]
  have l2 : rsem (.ld 1 false) [.ptr (some (H.next, 2))] Y = some (.bool a.t) := by simp [rsem, AHeap.ld, b1'.row]
  have l3 : rsem (.ld 1 false) [.ptr (some (H.next, 3))] Y = some (.bool a.e) := by simp [rsem, AHeap.ld, b1'.row]
  have l4 : rsem (.ld 1 false) [.ptr (some (H.next, 4))] Y = some (.int .i64 a.n) := by simp [rsem, AHeap.ld, b1'.row]
  have m0 : rsem (.ld 1 false) [.ptr (some (X.next, 0))] Y = some v := by simp [rsem, AHeap.ld, b2.row]
  have m1 : rsem (.ld 1 false) [.ptr (some (X.next, 1))] Y = some (.bool c.w) := by simp [rsem, AHeap.ld, b2.row]
  have m2 : rsem (.ld 1 false) [.ptr (some (X.next, 2))] Y = some (.bool c.t) := by simp [rsem, AHeap.ld, b2.row]
  have m3 : rsem (.ld 1 false) [.ptr (some (X.next, 3))] Y = some (.bool c.e) := by simp [rsem, AHeap.ld, b2.row]
  have m4 : rsem (.ld 1 false) [.ptr (some (X.next, 4))] Y = some (.int .i64 c.n) := by simp [rsem, AHeap.ld, b2.row]
  have ff := f1.trans f2
  simp [ir364, AV.cells, huc, hX, hvc, hY, l0, m0]
  refine ⟨⟨rfl, rfl, rfl, rfl⟩, ⟨rfl, rfl, rfl, rfl⟩, ?_⟩
  refine WC.of (c384 D.d384 (hu.fr hw ff) (hv.fr hw ff) hl) ?_
  rintro r K ⟨rfl, rfl⟩
  obtain ⟨af, aw, at_, ae, an⟩ := a
  obtain ⟨cf, cw, ct, ce, cn⟩ := c
  simp only at l1 l2 l3 l4 m1 m2 m3 m4
  by_cases h1 : af = cf
  · by_cases h2 : aw = cw
    · by_cases h3 : at_ = ct
      · by_cases h4 : ae = ce
        · by_cases h5 : an = cn <;> (simp [l1, l2, l3, l4, m1, m2, m3, m4, h1, h2, h3, h4, h5]; exact ff)
        · have h4' : (ae == ce) = false := by simpa using h4
          simp [l1, l2, l3, l4, m1, m2, m3, m4, h1, h2, h3, h4, h4']; exact ff
      · have h3' : (at_ == ct) = false := by simpa using h3
        simp [l1, l2, l3, l4, m1, m2, m3, m4, h1, h2, h3, h3']; exact ff
    · have h2' : (aw == cw) = false := by simpa using h2
      simp [l1, l2, l3, l4, m1, m2, m3, m4, h1, h2, h2']; exact ff
  · simp [l1, l2, l3, l4, m1, m2, m3, m4, h1]; exact ff
theorem c363 (D : D363 T) (D4 : D364 T) {H : AHeap} (hw : WF H) {u v : AV} {xs ys : List (AV × Cel)} (hu : Sl encC 5 H u xs) (hv : Sl encC 5 H v ys) (fx : ∀ x ∈ xs, Sl encF 3 H x.1 x.2.fs) (fy : ∀ x ∈ ys, Sl encF 3 H x.1 x.2.fs) (hl : xs.length < 2 ^ 62) (hfl : ∀ x ∈ xs, x.2.fs.length < 2 ^ 62) :
    Calls T 363 [u, v, .fn 364 [] []] H fun r K => Fr H K ∧ r = .bool (decide (xs.map (·.2) = ys.map (·.2))) := by
  refine Calls.fn D.pr D.fn ?_
  simp [ir363, hu.len, hv.len]
  refine WB.bool ?_ ?_
  · intro h
    simp at h ⊢
    refine ⟨.refl hw, fun e => ?_⟩
    have := congrArg List.length e
    simp at this
    exact h (by exact_mod_cast this)
  · intro h
    simp at h
    simp [hu.len]
    refine W_loop (fun (i : Nat) e K => e 1 = v ∧ e 2 = .fn 364 [] [] ∧ e 15 = u ∧ e 16 = .int .i64 xs.length ∧ Fr H K ∧ ∃ j : Nat, i + j = xs.length ∧ e 17 = .int .i64 j ∧ (xs.map (·.2)).take j = (ys.map (·.2)).take j) id xs.length ?_ ?_
    · simp [h]; exact .refl hw
    · rintro i e K ⟨x1, x2, x15, x16, fK, j, hj, x17, ht⟩
      simp [x1, x2, x15, x16, x17]
      refine WB.dec ?_ ?_
      · intro hlt
        have hjx : j < xs.length := by omega
        have hjy : j < ys.length := by omega
        obtain ⟨x, hx⟩ : ∃ x, nth xs (j : Int) = x := ⟨_, rfl⟩
        obtain ⟨y, hy⟩ : ∃ y, nth ys (j : Int) = y := ⟨_, rfl⟩
        have hxm : x ∈ xs := by rw [← hx]; exact nth_mem (by omega) (by omega)
        have hym : y ∈ ys := by rw [← hy]; exact nth_mem (by omega) (by omega)
        have sx := (fx x hxm).fr hw fK
        have sy := (fy y hym).fr hw fK
        have hxc := sx.form.1
        have hyc := sy.form.1
        have hu' := hu.fr hw fK
        have hv' := hv.fr hw fK
        have d1 := hu'.ldA (i := (j : Int)) (by omega) (by omega) (cs := [x.1, .bool x.2.w, .bool x.2.t, .bool x.2.e, .int .i64 x.2.n]) (by rw [hx]; rfl)
        have d2 := hv'.ldA (i := (j : Int)) (by omega) (by omega) (cs := [y.1, .bool y.2.w, .bool y.2.t, .bool y.2.e, .int .i64 y.2.n]) (by rw [hy]; rfl)
        have ia1 := hu'.ia (k := .i64) (i := (j : Int)) (by omega) (by omega)
        have ia2 := hv'.ia (k := .i64) (i := (j : Int)) (by omega) (by omega)
        obtain ⟨K1, s1, s2, s3⟩ := box_copy fK.wf (n := 5) (zs := [.slc none 0 0 none, .bool false, .bool false, .bool false, .int .i64 0]) (ds := [x.1, .bool x.2.w, .bool x.2.t, .bool x.2.e, .int .i64 x.2.n]) rfl rfl (by simp only [List.all_cons, List.all_nil, hxc]; rfl)
        obtain ⟨K2, t1, t2, t3⟩ := box_copy s2.wf (n := 5) (zs := [.slc none 0 0 none, .bool false, .bool false, .bool false, .int .i64 0]) (ds := [y.1, .bool y.2.w, .bool y.2.t, .bool y.2.e, .int .i64 y.2.n]) rfl rfl (by simp only [List.all_cons, List.all_nil, hyc]; rfl)
        have d2' := (hv'.fr fK.wf s2).ldA (i := (j : Int)) (by omega) (by omega) (cs := [y.1, .bool y.2.w, .bool y.2.t, .bool y.2.e, .int .i64 y.2.n]) (by rw [hy]; rfl)
        have s3' := s3.keeps s2.wf t2.keeps (by have := s2.wf.row_fam s3.row; omega)
        have lb1 : rsem (.ld 5 true) [.ptr (some (K.next, 0))] K2 = some (.agg [x.1, .bool x.2.w, .bool x.2.t, .bool x.2.e, .int .i64 x.2.n]) := by simp [rsem, AHeap.ld, s3'.row]
        have lb2 : rsem (.ld 5 true) [.ptr (some (K1.next, 0))] K2 = some (.agg [y.1, .bool y.2.w, .bool y.2.t, .bool y.2.e, .int .i64 y.2.n]) := by simp [rsem, AHeap.ld, t3.row]
        have ff := (fK.trans s2).trans t2
        simp [x1, x2, x15, x16, x17, ia1, d1, AV.cells, s1]
        refine ⟨⟨rfl, rfl, rfl⟩, ?_⟩
        simp [x1, x2, x15, x16, x17, ia2, d2', AV.cells, t1]
        refine ⟨⟨rfl, rfl, rfl⟩, ?_⟩
        simp [x1, x2, x15, x16, x17, lb1, lb2]
        refine WC.of (c364 D4 t2.wf ((sx.fr fK.wf s2).fr s2.wf t2) ((sy.fr fK.wf s2).fr s2.wf t2) (hfl x hxm)) ?_
        rintro r K3 ⟨f3, rfl⟩
        have hx1 : (xs.map (·.2))[j]? = some x.2 := by
          have := nth_eq (l := xs) (i := (j : Int)) (by omega) (by omega)
          rw [Int.toNat_natCast, hx] at this
          rw [List.getElem?_map, this]; rfl
        have hy1 : (ys.map (·.2))[j]? = some y.2 := by
          have := nth_eq (l := ys) (i := (j : Int)) (by omega) (by omega)
          rw [Int.toNat_natCast, hy] at this
          rw [List.getElem?_map, this]; rfl
        by_cases he : x.2 = y.2
        · simp [x1, x2, x15, x16, x17, he]
          refine ⟨i - 1, by omega, ff.trans f3, j + 1, by omega, by rw [wrap64 (by omega) (by omega)]; simp, ?_⟩
          rw [List.take_add_one, List.take_add_one, ht, hx1, hy1, he]
        · simp [x1, x2, x15, x16, x17, he]
          refine ⟨ff.trans f3, fun e => ?_⟩
          rw [e, hy1] at hx1
          exact he (Option.some.inj hx1).symm
      · intro hlt
        have e1 : xs.length ≤ j := by omega
        rw [List.take_of_length_le (by simp; omega), List.take_of_length_le (by simp; omega)] at ht
        simp
        exact ⟨fK, ht⟩
end Go.Am
