/- Contract: Copy of the reference. Printed by mkrefj.py. -/
import Derived.Test.YtpdedphkjkhddaaAmHeapK
set_option linter.unusedVariables false
set_option linter.unusedSimpArgs false
namespace Go.Am
variable {T : Tab}
section
variable {k : Nat} {tg tg' : Tags} {H0 H H' : AHeap} {b : Nat} {S : Rp} {fb : Nat} {cv nv : AV} {fc fn : Option Nat} {xs : List (AV × Cel)} {ff : Nat → Option Nat}
theorem RpI.pushCellC (h : RpI k tg H b S fb cv nv fc fn xs ff) (hw0 : WF H0) (u : Up k tg tg H0 H) {fv : AV} {l : List Fld} {f : Option Nat} (hv : Own encG 3 H fv l f) (hf : ∀ g, f = some g → H0.next ≤ g ∧ tg g = none) (w ct ce : Bool) (cn : Int) (hl : S.cells.length < 2 ^ 30) :
    ∃ v' H1 H2 tg' xs' ff' fc', wsem0 (.app 5 40) [cv, .slc (some (H.next, 0)) 5 1 (some 1)] (H.new [fv, .bool w, .bool ct, .bool ce, .int .i64 cn]) = some (v', H1) ∧ v'.cell = true ∧
      H1.st b 0 [v'] = some H2 ∧ Up k tg tg' H0 H2 ∧ RpI k tg' H2 b { S with cells := S.cells ++ [⟨l, w, ct, ce, cn⟩] } fb v' nv fc' fn xs' ff' := by
  have hw := u.wf
  have hk := u.ok
  obtain ⟨x, hx⟩ : ∃ x : AV × Cel, x = (fv, ⟨l, w, ct, ce, cn⟩) := ⟨_, rfl⟩
  have hfc : fv.cell = true := hv.1.form.1
  have hxc : (encC x).cells = [fv, .bool w, .bool ct, .bool ce, .int .i64 cn] := by rw [hx]; rfl
  have hlx : xs.length = S.cells.length := h.len
  obtain ⟨v', H1, f', q1, q2, q3, q4, q5⟩ := app_push (bytes := 40) (ys := [x]) hw h.cs (by omega) (by simp [hxc]) (by simp only [List.mem_singleton, forall_eq, hxc, List.all_cons, hfc]; rfl) (by simp; omega) (by simp; omega)
  simp only [List.flatMap_cons, List.flatMap_nil, List.append_nil, hxc, List.length_singleton] at q1
  have hn1 : H.next ≤ H1.next := q4.next
  have h0n := u.keeps.next
  have flt : ∀ g, f = some g → g < H.next := fun g hg => by have := hv.2; rw [hg] at this; exact this.lt hw
  -- the tags
  obtain ⟨tgA, htA⟩ : ∃ tgA : Tags, tgA = fun g => if f = some g then some (k, Tag.fields S.cells.length) else tg g := ⟨_, rfl⟩
  have hAo : ∀ g j t, tg g = some (j, t) → tgA g = some (j, t) := by
    intro g j t ht
    rw [htA]
    simp only
    rw [if_neg]
    · exact ht
    · intro e; rw [(hf g e).2] at ht; cases ht
  have hAn : ∀ g, f = some g → tgA g = some (k, .fields S.cells.length) := by intro g hg; rw [htA]; simp [hg]
  obtain ⟨tg', htn, hold, htag, hok⟩ : ∃ tg' : Tags, (∀ g, f' = some g → tg' g = some (k, .cells)) ∧ (∀ g, g < H.next → tg' g = tgA g) ∧ (∀ g, tg' g = tg g ∨ ((tg.own k g ∨ H0.next ≤ g) ∧ ∀ j t, tg' g = some (j, t) → j = k)) ∧ TagOk tg' H1 := by
    have baseA : ∀ g, tgA g = tg g ∨ ((tg.own k g ∨ H0.next ≤ g) ∧ ∀ j t, tgA g = some (j, t) → j = k) := by
      intro g
      by_cases e : f = some g
      · exact .inr ⟨.inr (hf g e).1, fun j t ht => by rw [hAn g e] at ht; simp at ht; exact ht.1.symm⟩
      · exact .inl (by rw [htA]; simp [e])
    have okA : TagOk tgA H1 := fun g hg => by
      rw [htA]; simp only
      rw [if_neg (fun e => by have := flt g e; omega)]
      exact hk g (by omega)
    have keep : (∀ g, f' = some g → fc = some g) → ∃ tg' : Tags, (∀ g, f' = some g → tg' g = some (k, .cells)) ∧ (∀ g, g < H.next → tg' g = tgA g) ∧ (∀ g, tg' g = tg g ∨ ((tg.own k g ∨ H0.next ≤ g) ∧ ∀ j t, tg' g = some (j, t) → j = k)) ∧ TagOk tg' H1 :=
      fun hh => ⟨tgA, fun g hg => hAo _ _ _ (h.tc g (hh g hg)), fun _ _ => rfl, baseA, okA⟩
    cases f' with
    | none => exact keep (by intro g hg; cases hg)
    | some g =>
      rcases q5 g rfl with e | e
      · exact keep (by intro g' hg; simp at hg; subst hg; exact e)
      · have hlt := q3.2.lt q2
        refine ⟨upd tgA g (some (k, .cells)), (by intro g' hg; simp at hg; subst hg; exact upd_same _ _ _), fun g' hg' => upd_ne _ _ _ (by omega), fun g' => ?_, fun g' hg' => by rw [upd_ne _ _ _ (by omega)]; exact okA g' hg'⟩
        by_cases e' : g' = g
        · subst e'; exact .inr ⟨.inr (by omega), fun j t ht => by rw [upd_same] at ht; simp at ht; exact ht.1.symm⟩
        · rw [upd_ne _ _ _ e']; exact baseA g'
  have keepT : ∀ g t, g < H.next → tg g = some (k, t) → tg' g = some (k, t) := fun g t hg ht => by rw [hold g hg]; exact hAo _ _ _ ht
  have up1 : Up k tg tg' H0 H1 :=
    ⟨q2, hok, Keeps.drop hw0 ((u.keeps.mono fun g hg => .inl hg).trans (q4.mono fun g e => .inl ⟨_, h.tc g e⟩)), htag⟩
  have l1 := hw.row_fam h.box.row
  have tb' : tg' fb = some (k, .str) := keepT _ _ l1 h.tb
  have hb1 : Box H1 b fb [cv, nv] := h.box.keeps hw q4 fun e => h.ne (h.tc _ e) h.tb (by simp) rfl
  obtain ⟨H2, r1, r2, r3, r4, r5⟩ := hb1.st q2 (off := 0) (vs := [v']) (by simp) (by simpa using q3.1.form.1)
  rw [splice_one (by simp)] at r3
  have up2 : Up k tg' tg' H1 H2 := Up.one hok tb' r2 r5 r4
  have ne' : ∀ {g t}, tg' g = some (k, t) → t ≠ .str → g ≠ fb := by
    intro g t hg hne e; subst e; rw [tb'] at hg; simp at hg; exact hne hg.symm
  have olt : ∀ {α : Type} {enc : α → AV} {z : Nat} {v : AV} {m : List α} {ff : Option Nat} {g : Nat}, Own enc z H v m ff → ff = some g → g < H.next := by
    intro α enc z v m ff g ho hg
    have := ho.2; rw [hg] at this; exact this.lt hw
  refine ⟨v', H1, H2, tg', xs ++ [x], upd ff S.cells.length f, f', q1, q3.1.form.1, r1, up1.trans hw0 up2, by simpa using r3, tb', q3.keeps q2 r4 fun g hg => ne' (htn g hg) (by simp), htn, ?_, ?_, ?_, ?_⟩
  · exact (h.ns.keeps hw q4 fun g hg e => h.ne (h.tc _ e) (h.tn g hg) (by simp) rfl).keeps q2 r4 fun g hg => h.ne (h.tn g hg) h.tb (by simp)
  · intro g hg; exact keepT _ _ (olt h.ns hg) (h.tn g hg)
  · rw [List.map_append, h.xc, hx]; rfl
  · intro i y hy
    by_cases e : i = S.cells.length
    · subst e
      rw [List.getElem?_append_right (by omega), hlx, Nat.sub_self] at hy
      simp at hy
      subst hy
      rw [upd_same, hx]
      refine ⟨(hv.keeps hw q4 fun g hg e => ?_).keeps q2 r4 fun g hg => ?_, fun g hg => ?_⟩
      · have := h.tc g e; rw [(hf g hg).2] at this; cases this
      · have := h.tb; intro e; subst e; rw [(hf _ hg).2] at this; cases this
      · rw [hold _ (flt g hg)]; exact hAn g hg
    · have hi : i < xs.length := by
        have := (List.getElem?_eq_some_iff.1 hy).1
        rw [List.length_append, List.length_singleton] at this
        omega
      rw [List.getElem?_append_left hi] at hy
      rw [upd_ne _ _ _ e]
      obtain ⟨p1, p2⟩ := h.fs i y hy
      exact ⟨(p1.keeps hw q4 fun g hg e => h.ne (h.tc _ e) (p2 g hg) (by simp) rfl).keeps q2 r4 fun g hg => h.ne (p2 g hg) h.tb (by simp), fun g hg => keepT _ _ (olt p1 hg) (p2 g hg)⟩
end
theorem RpI.other {k : Nat} {tg tg' : Tags} {H H' : AHeap} {b : Nat} {S : Rp} {fb : Nat} {cv nv : AV} {fc fn : Option Nat} {xs : List (AV × Cel)} {ff : Nat → Option Nat} (h : RpI k tg H b S fb cv nv fc fn xs ff) (hw : WF H) {j : Nat} (hj : k ≠ j) (hu : Up j tg tg' H H') : RpI k tg' H' b S fb cv nv fc fn xs ff :=
  h.keeps hw hu.keeps fun g t hg ht => ⟨(hu.other hj hg ht).2, (hu.other hj hg ht).1⟩
theorem c329 (D : D329 T) {k k2 : Nat} {tg : Tags} {H : AHeap} {b : Nat} {Q : Rp} (hne : k ≠ k2) (hw : WF H) (hk : TagOk tg H) (h : RpR k tg H b Q) (hl : Q.cells.length ≤ 100) (hfl : ∀ c ∈ Q.cells, c.fs.length ≤ 8) (hnl : Q.notes.length < 2 ^ 39) :
    Calls T 329 [.ptr (some (b, 0))] H fun r K => ∃ tg' b', r = .ptr (some (b', 0)) ∧ Up k2 tg tg' H K ∧ RpR k tg' K b Q ∧ RpR k2 tg' K b' Q := by
  refine Calls.fn D.pr D.fn ?_
  obtain ⟨fb, cv, nv, fc, fn, xs, ff, hi⟩ := h
  obtain ⟨n, hn⟩ : ∃ n, Q.cells.length = n := ⟨_, rfl⟩
  rw [hn] at hl
  -- the notes
  obtain ⟨nv2, X1, p1, p2, fn2, p3, p4⟩ := app_made (bytes := 8) (H0 := H) (H := H) (.refl hw) (v := .slc none 0 0 none) (.nil : Made encI 1 H.next H _ []) hi.ns.1 (by simp) (fun y _ => rfl) (by simp; omega) (by simp; omega)
  rw [List.nil_append] at p3
  have hnvc : nv2.cell = true := p3.1.form.1
  have bx2 := Box.new (H := X1) (cs := [.slc none 0 0 none, nv2])
  have f2 := p2.wf.fr_new (cs := [.slc none 0 0 none, nv2])
  have n2 : X1.next < (X1.new [.slc none 0 0 none, nv2]).next := Nat.lt_succ_self _
  obtain ⟨X2, hX2⟩ : ∃ X, X1.new [.slc none 0 0 none, nv2] = X := ⟨_, rfl⟩
  rw [hX2] at bx2 f2 n2
  have hbld : psem (.bld [.slc none 0 0 none, .slc none 0 0 none] [(1, 1)]) [nv2] = some (.agg [.slc none 0 0 none, nv2]) := by
    have hv : nv2.cells = [nv2] := by cases nv2 <;> simp_all [AV.cells, AV.cell]
    simp [psem_bld', fill, hv, hnvc, splice]
  obtain ⟨b2, hb2⟩ : ∃ x, X1.next = x := ⟨_, rfl⟩
  rw [hb2] at bx2 n2
  have fH2 : Fr H X2 := p2.trans f2
  have b2H : H.next ≤ b2 := by have := p2.next; omega
  have up0 : Up k2 tg tg H X2 := Up.fr hw hk fH2
  have ltn : ∀ g, fn2 = some g → g < X1.next := fun g hg => by have := p3.2; rw [hg] at this; exact this.lt p2.wf
  obtain ⟨tg2, up2, t1, t2⟩ : ∃ tg2 : Tags, Up k2 tg tg2 H X2 ∧ tg2 b2 = some (k2, .str) ∧ ∀ g, fn2 = some g → tg2 g = some (k2, .notes) := by
    cases fn2 with
    | none => exact ⟨_, up0.put2 (t := .str) b2H n2, upd_same _ _ _, fun g hg => by cases hg⟩
    | some g =>
      have := ltn g rfl
      refine ⟨_, (up0.put2 (t := .str) b2H n2).put2 (g := g) (t := .notes) (p4 g rfl) (by omega), ?_, fun g' hg => ?_⟩
      · rw [upd_ne _ _ _ (by omega), upd_same]
      · cases hg; exact upd_same _ _ _
  have hi2 : RpI k2 tg2 X2 b2 { Q with cells := [] } b2 (.slc none 0 0 none) nv2 none fn2 [] (fun _ => none) :=
    ⟨bx2, t1, Own.nil (by simp), by simp, p3.fr p2.wf f2, t2, rfl, fun i x hx => by simp at hx⟩
  simp [ir329, hi.ldn, p1, hbld, AV.cells, hnvc, hX2, hb2]
  refine ⟨rfl, ?_⟩
  refine W_loop (fun (z : Nat) e X => e 0 = .ptr (some (b, 0)) ∧ e 3 = .ptr (some (b2, 0)) ∧ ∃ j : Nat, z + j = n ∧ e 4 = .int .i64 j ∧ ∃ tgX, Up k2 tg tgX H X ∧ ∃ cv' fc' ys ff', RpI k2 tgX X b2 { Q with cells := Q.cells.take j } b2 cv' nv2 fc' fn2 ys ff') id n ?_ ?_
  · exact ⟨by simp, by simp, 0, by simp, by simp, tg2, up2, _, _, _, _, by simpa using hi2⟩
  · rintro z e X ⟨x0, x3, j, hj, x4, tgX, uX, cv', fc', ys, ff', hJ⟩
    have hX := hi.other hw hne uX
    have wX := uX.wf
    have hlX := hX.lenC
    rw [hn] at hlX
    simp [x0, x3, x4, hX.ldc, hlX]
    refine WB.dec ?_ ?_
    · intro hlt
      have jS : (j : Int) < Q.cells.length := by omega
      obtain ⟨bo, oo, e1, e2, e3, e4, e5, e6, e7, _⟩ := hX.cell wX uX.ok (i := (j : Int)) (by omega) jS
      have iac := hX.ia (kk := .i64) (i := (j : Int)) (by omega) jS
      obtain ⟨c, hc⟩ : ∃ c, nth Q.cells (j : Int) = c := ⟨_, rfl⟩
      obtain ⟨fv, hfv⟩ : ∃ fv, (nth xs (j : Int)).1 = fv := ⟨_, rfl⟩
      have hfs := hX.fld (i := (j : Int)) (by omega) jS
      have hf8 := hfl _ (nth_mem (l := Q.cells) (i := (j : Int)) (by omega) jS)
      rw [hc] at e7 hfs hf8
      rw [hfv] at e7 hfs
      have hfvc : fv.cell = true := hfs.form.1
      -- the cell is copied
      obtain ⟨Y1, s1, s2, s3⟩ := box_copy wX (n := 5) (zs := [.slc none 0 0 none, .bool false, .bool false, .bool false, .int .i64 0]) (ds := [fv, .bool c.w, .bool c.t, .bool c.e, .int .i64 c.n]) rfl rfl (by simp only [List.all_cons, List.all_nil, hfvc]; rfl)
      have e7' : rsem (.ld 5 true) [.ptr (some (bo, oo))] X = some (.agg [fv, .bool c.w, .bool c.t, .bool c.e, .int .i64 c.n]) := e7
      have lb0 : rsem (.ld 1 false) [.ptr (some (X.next, 0))] Y1 = some fv := by simp [rsem, AHeap.ld, s3.row]
      -- its fields
      obtain ⟨v2, Y2, q1, q2, q3⟩ := app_made (bytes := 16) (H0 := Y1) (H := Y1) (.refl s2.wf) (v := .slc none 0 0 none) (.nil : Made encG 3 Y1.next Y1 _ []) (hfs.fr wX s2) (by simp) (fun y _ => by simp [encG, AV.cells, AV.cell]) (by simp; omega) (by simp; omega)
      rw [List.nil_append] at q3
      obtain ⟨fg, q4, q5⟩ := q3
      have hv2c : v2.cell = true := q4.1.form.1
      have s3' := s3.keeps s2.wf q2.keeps (by have := s2.wf.row_fam s3.row; omega)
      obtain ⟨Y3, r1, r2, r3, r4, r5⟩ := s3'.st q2.wf (off := 0) (vs := [v2]) (by simp) (by simpa using hv2c)
      have r3 : Box Y3 X.next X.next [v2, .bool c.w, .bool c.t, .bool c.e, .int .i64 c.n] := by simpa [splice] using r3
      have hst : wsem0 (.st 1) [.ptr (some (X.next, 0)), v2] Y2 = some (.undef, Y3) := by
        have hv : v2.cells = [v2] := by cases v2 <;> simp_all [AV.cells, AV.cell]
        simp [wsem0_st, hv, r1]
      have hY1 : X.next < Y1.next := by have := s2.wf.row_fam s3.row; exact this
      have q4' := q4.keeps q2.wf r4 fun g hg e => by have := q5 g hg; omega
      have fX3 : Fr X Y3 := (s2.trans q2).step r2 r4 fun g hg => by omega
      have lb5 : rsem (.ld 5 true) [.ptr (some (X.next, 0))] Y3 = some (.agg [v2, .bool c.w, .bool c.t, .bool c.e, .int .i64 c.n]) := by simp [rsem, AHeap.ld, r3.row]
      have hJ3 := hJ.keeps (tg' := tgX) wX fX3.keeps fun g t hg htg => ⟨by omega, htg⟩
      have htl : (Q.cells.take j).length = j := by rw [List.length_take]; omega
      obtain ⟨v3, Y4, Y5, tgY, ys', ff2, fc2, z1, z2, z3, z4, z5⟩ := hJ3.pushCellC wX (Up.fr wX uX.ok fX3) q4' (fun g hg => ⟨by have := q5 g hg; omega, uX.ok g (by have := q5 g hg; omega)⟩) c.w c.t c.e c.n (by simp only [htl]; omega)
      have hbsl := wsem0_bslA (n := 5) (z := [.slc none 0 0 none, .bool false, .bool false, .bool false, .int .i64 0]) (cs := [v2, .bool c.w, .bool c.t, .bool c.e, .int .i64 c.n]) (H := Y3) rfl rfl (by simp only [List.all_cons, List.all_nil, hv2c]; rfl) (by omega)
      have hst2 : wsem0 (.st 1) [.ptr (some (b2, 0)), v3] Y4 = some (.undef, Y5) := by
        have hv : v3.cells = [v3] := by cases v3 <;> simp_all [AV.cells, AV.cell]
        simp [wsem0_st, hv, z3]
      simp [x0, x3, x4, hX.ldc, iac, e1, e7', AV.cells, s1, lb0, q1, hst]
      refine ⟨⟨rfl, rfl, rfl⟩, ?_⟩
      refine W_floats ?_
      simp [x3, hJ3.ldc, lb5, hbsl, z1, hst2]
      have hJ4 := hJ3.keeps (tg' := tgX) r2 (r2.fr_new (cs := [v2, .bool c.w, .bool c.t, .bool c.e, .int .i64 c.n])).keeps fun g t hg htg => ⟨by omega, htg⟩
      simp [floatOk, wanted, AV.same_refl, x0, x3, x4, hJ3.ldc, hJ4.ldc, lb5]
      refine ⟨z - 1, by omega, j + 1, by omega, by rw [wrap64 (by omega) (by omega)]; simp, tgY, uX.trans hw z4, v3, fc2, ys', ff2, ?_⟩
      have e : Q.cells.take (j + 1) = Q.cells.take j ++ [⟨c.fs, c.w, c.t, c.e, c.n⟩] := by rw [take_nth (by omega), hc]
      rw [e]
      exact z5
    · intro hlt
      have hjn : j = n := by omega
      subst hjn
      rw [List.take_of_length_le (by omega)] at hJ
      simp [x3]
      exact ⟨tgX, uX, ⟨_, _, _, _, _, _, _, hX⟩, ⟨_, _, _, _, _, _, _, hJ⟩⟩
end Go.Am
