/- Contracts of the reference's heap: Make, Count, Get. -/
import Derived.Test.YtpdedphkjkhddaaAmRefC
set_option linter.unusedVariables false
set_option linter.unusedSimpArgs false
namespace Go.Am
variable {T : Tab}

def makeQ (S : Rp) (n : Int) (w : Bool) : Rp × Int × Int := ((makeR S.hp n w).1.rp, (makeR S.hp n w).2)

section
variable {k : Nat} {tg tg' : Tags} {H0 H H' : AHeap} {b : Nat} {S : Rp} {fb : Nat} {cv nv : AV} {fc fn : Option Nat} {xs : List (AV × Cel)} {ff : Nat → Option Nat}

/-- A cell more. -/
theorem RpI.pushCell (h : RpI k tg H b S fb cv nv fc fn xs ff) (hw0 : WF H0) (u : Up k tg tg H0 H) {fv : AV} {l : List Fld} {f : Option Nat} (hv : Own encG 3 H fv l f) (hf : ∀ g, f = some g → H0.next ≤ g ∧ tg g = none) (w : Bool) (hl : S.cells.length < 2 ^ 30) :
    ∃ v' H1 H2 tg' xs' ff' fc', wsem0 (.app 5 40) [cv, .slc (some (H.next, 0)) 5 1 (some 1)] (H.new [fv, .bool w, .bool false, .bool false, .int .i64 0]) = some (v', H1) ∧ v'.cell = true ∧
      H1.st b 0 [v'] = some H2 ∧ Up k tg tg' H0 H2 ∧ RpI k tg' H2 b { S with cells := S.cells ++ [⟨l, w, false, false, 0⟩] } fb v' nv fc' fn xs' ff' := by
  have hw := u.wf
  have hk := u.ok
  obtain ⟨x, hx⟩ : ∃ x : AV × Cel, x = (fv, ⟨l, w, false, false, 0⟩) := ⟨_, rfl⟩
  have hfc : fv.cell = true := hv.1.form.1
  have hxc : (encC x).cells = [fv, .bool w, .bool false, .bool false, .int .i64 0] := by rw [hx]; rfl
  have hlx : xs.length = S.cells.length := h.len
  obtain ⟨v', H1, f', q1, q2, q3, q4, q5⟩ := app_push (bytes := 40) (ys := [x]) hw h.cs (by omega) (by simp [hxc]) (by simp only [List.mem_singleton, forall_eq, hxc, List.all_cons, hfc]; rfl) (by simp; omega) (by simp; omega)
  simp only [List.flatMap_cons, List.flatMap_nil, List.append_nil, hxc, List.length_singleton] at q1
  have hn1 : H.next ≤ H1.next := q4.next
  have h0n := u.keeps.next
  have flt : ∀ g, f = some g → g < H.next := fun g hg => by have := hv.2; rw [hg] at this; exact this.lt hw
  -- the tags
  obtain ⟨tgA, htA⟩ : ∃ tgA : Tags, tgA = fun g => if f = some g then some (k, Tag.fields S.cells.length) else tg g := ⟨_, rfl⟩
  have hAo : ∀ g j t, tg g = some (j, t) → tgA g = some (j, t) := by
    intro g j t ht
    rw [htA]
    simp only
    rw [if_neg]
    · exact ht
    · intro e; rw [(hf g e).2] at ht; cases ht
  have hAn : ∀ g, f = some g → tgA g = some (k, .fields S.cells.length) := by intro g hg; rw [htA]; simp [hg]
  obtain ⟨tg', htn, hold, htag, hok⟩ : ∃ tg' : Tags, (∀ g, f' = some g → tg' g = some (k, .cells)) ∧ (∀ g, g < H.next → tg' g = tgA g) ∧ (∀ g, tg' g = tg g ∨ ((tg.own k g ∨ H0.next ≤ g) ∧ ∀ j t, tg' g = some (j, t) → j = k)) ∧ TagOk tg' H1 := by
    have baseA : ∀ g, tgA g = tg g ∨ ((tg.own k g ∨ H0.next ≤ g) ∧ ∀ j t, tgA g = some (j, t) → j = k) := by
      intro g
      by_cases e : f = some g
      · exact .inr ⟨.inr (hf g e).1, fun j t ht => by rw [hAn g e] at ht; simp at ht; exact ht.1.symm⟩
      · exact .inl (by rw [htA]; simp [e])
    have okA : TagOk tgA H1 := fun g hg => by
      rw [htA]; simp only
      rw [if_neg (fun e => by have := flt g e; omega)]
      exact hk g (by omega)
    have keep : (∀ g, f' = some g → fc = some g) → ∃ tg' : Tags, (∀ g, f' = some g → tg' g = some (k, .cells)) ∧ (∀ g, g < H.next → tg' g = tgA g) ∧ (∀ g, tg' g = tg g ∨ ((tg.own k g ∨ H0.next ≤ g) ∧ ∀ j t, tg' g = some (j, t) → j = k)) ∧ TagOk tg' H1 :=
      fun hh => ⟨tgA, fun g hg => hAo _ _ _ (h.tc g (hh g hg)), fun _ _ => rfl, baseA, okA⟩
    cases f' with
    | none => exact keep (by intro g hg; cases hg)
    | some g =>
      rcases q5 g rfl with e | e
      · exact keep (by intro g' hg; simp at hg; subst hg; exact e)
      · have hlt := q3.2.lt q2
        refine ⟨upd tgA g (some (k, .cells)), (by intro g' hg; simp at hg; subst hg; exact upd_same _ _ _), fun g' hg' => upd_ne _ _ _ (by omega), fun g' => ?_, fun g' hg' => by rw [upd_ne _ _ _ (by omega)]; exact okA g' hg'⟩
        by_cases e' : g' = g
        · subst e'; exact .inr ⟨.inr (by omega), fun j t ht => by rw [upd_same] at ht; simp at ht; exact ht.1.symm⟩
        · rw [upd_ne _ _ _ e']; exact baseA g'
  have keepT : ∀ g t, g < H.next → tg g = some (k, t) → tg' g = some (k, t) := fun g t hg ht => by rw [hold g hg]; exact hAo _ _ _ ht
  have up1 : Up k tg tg' H0 H1 :=
    ⟨q2, hok, Keeps.drop hw0 ((u.keeps.mono fun g hg => .inl hg).trans (q4.mono fun g e => .inl ⟨_, h.tc g e⟩)), htag⟩
  have l1 := hw.row_fam h.box.row
  have tb' : tg' fb = some (k, .str) := keepT _ _ l1 h.tb
  have hb1 : Box H1 b fb [cv, nv] := h.box.keeps hw q4 fun e => h.ne (h.tc _ e) h.tb (by simp) rfl
  obtain ⟨H2, r1, r2, r3, r4, r5⟩ := hb1.st q2 (off := 0) (vs := [v']) (by simp) (by simpa using q3.1.form.1)
  rw [splice_one (by simp)] at r3
  have up2 : Up k tg' tg' H1 H2 := Up.one hok tb' r2 r5 r4
  have ne' : ∀ {g t}, tg' g = some (k, t) → t ≠ .str → g ≠ fb := by
    intro g t hg hne e; subst e; rw [tb'] at hg; simp at hg; exact hne hg.symm
  have olt : ∀ {α : Type} {enc : α → AV} {z : Nat} {v : AV} {m : List α} {ff : Option Nat} {g : Nat}, Own enc z H v m ff → ff = some g → g < H.next := by
    intro α enc z v m ff g ho hg
    have := ho.2; rw [hg] at this; exact this.lt hw
  refine ⟨v', H1, H2, tg', xs ++ [x], upd ff S.cells.length f, f', q1, q3.1.form.1, r1, up1.trans hw0 up2, by simpa using r3, tb', q3.keeps q2 r4 fun g hg => ne' (htn g hg) (by simp), htn, ?_, ?_, ?_, ?_⟩
  · exact (h.ns.keeps hw q4 fun g hg e => h.ne (h.tc _ e) (h.tn g hg) (by simp) rfl).keeps q2 r4 fun g hg => h.ne (h.tn g hg) h.tb (by simp)
  · intro g hg; exact keepT _ _ (olt h.ns hg) (h.tn g hg)
  · rw [List.map_append, h.xc, hx]; rfl
  · intro i y hy
    by_cases e : i = S.cells.length
    · subst e
      rw [List.getElem?_append_right (by omega), hlx, Nat.sub_self] at hy
      simp at hy
      subst hy
      rw [upd_same, hx]
      refine ⟨(hv.keeps hw q4 fun g hg e => ?_).keeps q2 r4 fun g hg => ?_, fun g hg => ?_⟩
      · have := h.tc g e; rw [(hf g hg).2] at this; cases this
      · have := h.tb; intro e; subst e; rw [(hf _ hg).2] at this; cases this
      · rw [hold _ (flt g hg)]; exact hAn g hg
    · have hi : i < xs.length := by
        have := (List.getElem?_eq_some_iff.1 hy).1
        rw [List.length_append, List.length_singleton] at this
        omega
      rw [List.getElem?_append_left hi] at hy
      rw [upd_ne _ _ _ e]
      obtain ⟨p1, p2⟩ := h.fs i y hy
      exact ⟨(p1.keeps hw q4 fun g hg e => h.ne (h.tc _ e) (p2 g hg) (by simp) rfl).keeps q2 r4 fun g hg => h.ne (p2 g hg) h.tb (by simp), fun g hg => keepT _ _ (olt p1 hg) (p2 g hg)⟩

theorem c347 (D : D347 T) (hw : WF H) (hk : TagOk tg H) (h : RpR k tg H b S) {n : Int} {w : Bool} (hl : S.cells.length ≤ 100) (hnl : S.notes.length < 2 ^ 39) :
    Calls T 347 [.ptr (some (b, 0)), .int .i64 n, .bool w] H fun r K => r = .tup [.int .i64 (makeQ S n w).2.1, .int .i64 (makeQ S n w).2.2] ∧ ToQ k tg H b (makeQ S n w).1 K := by
  refine Calls.fn D.pr D.fn ?_
  obtain ⟨fb, cv, nv, fc, fn, xs, ff, h⟩ := h
  have fin0 : ToQ k tg H b S H := ⟨tg, Up.refl hw hk, _, _, _, _, _, _, _, h⟩
  by_cases hn : n < 0
  · have hR : makeQ S n w = (S, 0, 1) := by unfold makeQ makeR; rw [if_pos (.inl hn)]; rfl
    simp [ir347, hn, hR]
    exact fin0
  · by_cases hn8 : 8 < n
    · have hR : makeQ S n w = (S, 0, 1) := by unfold makeQ makeR; rw [if_pos (.inr hn8)]; rfl
      simp [ir347, hn, hn8, hR]
      exact fin0
    · by_cases hc : S.cells.length = 100
      · have hR : makeQ S n w = (S, 0, 3) := by unfold makeQ makeR; rw [if_neg (by omega), if_pos (show S.hp.cells.length = 100 from hc)]; rfl
        simp [ir347, hn, hn8, h.ldc, h.lenC, hc, hR]
        exact fin0
      · obtain ⟨z, rfl⟩ : ∃ z : Nat, n = z := ⟨n.toNat, by omega⟩
        have hR : makeQ S (z : Int) w = ((⟨S.cells ++ [(⟨List.replicate z ⟨false, false, 0⟩, w, false, false, 0⟩ : Cel)], S.notes ++ [(S.cells.length : Int)]⟩ : Rp), (S.cells.length : Int), (0 : Int)) := by
          unfold makeQ makeR; rw [if_neg (by omega), if_neg (show ¬ S.hp.cells.length = 100 from hc)]; rfl
        have hc' : ¬ (100 : Int) ≤ (S.cells.length : Int) := by omega
        have hz : ¬ (z : Int) < 0 := by omega
        have hbld : psem (.bld [.slc none 0 0 none, .bool false, .bool false, .bool false, .int .i64 0] [(1, 1)]) [.bool w] = some (.agg [.slc none 0 0 none, .bool w, .bool false, .bool false, .int .i64 0]) := by simp [psem_bld', fill, AV.cells, AV.cell, splice]
        obtain ⟨K1, s1, fr1, s3⟩ := box_copy hw (n := 5) (zs := [.slc none 0 0 none, .bool false, .bool false, .bool false, .int .i64 0]) (ds := [.slc none 0 0 none, .bool w, .bool false, .bool false, .int .i64 0]) rfl rfl (by simp [AV.cell])
        rw [hR]
        simp [ir347, hz, hn8, h.ldc, h.lenC, hc', hbld, AV.cells, AV.cell, s1]
        refine W_loop (fun (i : Nat) e K => e 0 = .ptr (some (b, 0)) ∧ e 1 = .int .i64 z ∧ e 8 = .ptr (some (H.next, 0)) ∧ ∃ q : Nat, i + q = z ∧ e 9 = .int .i64 q ∧ Fr H K ∧ ∃ fv f, Box K H.next H.next [fv, .bool w, .bool false, .bool false, .int .i64 0] ∧ Own encG 3 K fv (List.replicate q ⟨false, false, 0⟩) f ∧ ∀ g, f = some g → H.next < g) id z ?_ ?_
        · exact ⟨by simp, by simp, by simp, 0, by simp, by simp, fr1, .slc none 0 0 none, none, s3, Own.nil (by simp), by simp⟩
        · rintro i e K ⟨x0, x1, x8, q, hq, x9, fr, fv, f, bx, ow, hf⟩
          simp [x1, x9]
          refine WB.bool ?_ ?_
          · intro hlt
            simp at hlt
            have hz0 : psem (.bld [.int .i64 0, .bool false, .bool false] []) [] = some (.agg [.int .i64 0, .bool false, .bool false]) := by simp [psem_bld', fill]
            have hbsl := wsem0_bslA (n := 3) (z := [.int .i64 0, .bool false, .bool false]) (cs := [.int .i64 0, .bool false, .bool false]) (H := K) rfl rfl (by simp [AV.cell]) (by omega)
            obtain ⟨v', K2, f', p1, p2, p3, p4, p5⟩ := app_push (bytes := 16) (ys := [(⟨false, false, 0⟩ : Fld)]) fr.wf ow (by omega) (by simp [encG, AV.cells]) (by simp [encG, AV.cells, AV.cell]) (by simp; omega) (by simp; omega)
            simp only [List.flatMap_cons, List.flatMap_nil, List.append_nil, List.length_singleton, encG, AV.cells] at p1
            have hbx1 : Box K2 H.next H.next [fv, .bool w, .bool false, .bool false, .int .i64 0] := bx.keeps fr.wf p4 fun e => by have := hf _ e; omega
            obtain ⟨K3, r1, r2, r3, r4, r5⟩ := hbx1.st p2 (off := 0) (vs := [v']) (by simp) (by simpa using p3.1.form.1)
            rw [splice_one (by simp)] at r3
            have l0 : rsem (.ld 1 false) [.ptr (some (H.next, 0))] K = some fv := by simp [rsem, AHeap.ld, bx.row]
            have hn := fr.next
            have hne' : ∀ g, f' = some g → H.next < g := by
              intro g hg
              rcases p5 g hg with e | e
              · exact hf g e
              · have : H.next < K.next := fr.wf.row_lt bx.row; omega
            simp (disch := omega) [x8, x9, l0, hz0, hbsl, p1, wsem_st4 p3.1.form.1 r1, wrap64]
            refine ⟨i - 1, by omega, x0, x1, q + 1, by omega, by simp, (fr.step p2 p4 fun g hg => by have := hf g hg; omega).step r2 r4 (fun g hg => by omega), v', by simpa using r3, f', ?_, hne'⟩
            have e : List.replicate q (⟨false, false, 0⟩ : Fld) ++ [⟨false, false, 0⟩] = List.replicate (q + 1) ⟨false, false, 0⟩ := by rw [List.replicate_succ']
            rw [← e]
            exact p3.keeps p2 r4 fun g hg => by have := hne' g hg; omega
          · intro hge
            simp at hge
            have hqz : q = z := by omega
            subst hqz
            have u1 : Up k tg tg H K := Up.fr hw hk fr
            have g := h.fr hw fr
            obtain ⟨v', K2, K3, tg2, xs2, ff2, fc2, p1, p2, p3, p4, p5⟩ := g.pushCell hw u1 ow (fun g hg => ⟨by have := hf g hg; omega, hk g (by have := hf g hg; omega)⟩) w (by omega)
            have hfc : fv.cell = true := ow.1.form.1
            have lA : rsem (.ld 5 true) [.ptr (some (H.next, 0))] K = some (.agg [fv, .bool w, .bool false, .bool false, .int .i64 0]) := bx.ldA rfl
            have hbsl := wsem0_bslA (n := 5) (z := [.slc none 0 0 none, .bool false, .bool false, .bool false, .int .i64 0]) (cs := [fv, .bool w, .bool false, .bool false, .int .i64 0]) (H := K) rfl rfl (by simp only [List.all_cons, hfc]; rfl) (by omega)
            have l0'' : rsem (.ld 1 false) [.ptr (some (b, 0))] (K.new [fv, .bool w, .bool false, .bool false, .int .i64 0]) = some cv := (g.fr u1.wf u1.wf.fr_new).ldc
            simp
            refine W_floats ?_
            simp [x0, x8, g.ldc, lA, hbsl, p1, wsem_st4 p2 p3]
            simp [floatOk, wanted, AV.same_refl, x0, g.ldc, l0'']
            have hl2 : ((S.cells ++ [(⟨List.replicate q ⟨false, false, 0⟩, w, false, false, 0⟩ : Cel)]).length : Int) - 1 = S.cells.length := by simp
            have lenC2 := p5.lenC
            obtain ⟨v3, K4, K5, tg3, f3, r1, r2, r3, r4, r5⟩ := p5.pushNote p4.wf p4.ok (S.cells.length : Int) (by simpa using by omega)
            have hb1 := wsem0_bsl1 (v := .int .i64 (S.cells.length : Int)) (z := .int .i64 0) (H := K3) rfl
            have l1'' : rsem (.ld 1 false) [.ptr (some (b, 1))] (K3.new [.int .i64 (S.cells.length : Int)]) = some nv := (p5.fr p4.wf p4.wf.fr_new).ldn
            have hw64 : IntKind.i64.wrap (S.cells.length : Int) = S.cells.length := wrap64 (by omega) (by omega)
            simp only [List.length_append, List.length_singleton, Int.natCast_add, Int.natCast_one] at lenC2
            refine W_floats ?_
            simp [x0, p5.ldn, p5.ldc, lenC2, hw64, hb1, r1, wsem_st4 r2 r3]
            simp [floatOk, wanted, AV.same_refl, x0, p5.ldn, l1'']
            have lenC3 := r5.lenC
            simp only [List.length_append, List.length_singleton, Int.natCast_add, Int.natCast_one] at lenC3
            simp [x0, r5.ldc, lenC3, hw64]
            exact ⟨tg3, p4.trans hw r4, _, _, _, _, _, _, _, r5⟩
end
end Go.Am
