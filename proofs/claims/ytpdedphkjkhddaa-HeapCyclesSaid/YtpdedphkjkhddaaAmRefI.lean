/- Contract: Cycles of the reference. -/
import Derived.Test.YtpdedphkjkhddaaAmHeapCz
set_option linter.unusedVariables false
set_option linter.unusedSimpArgs false
namespace Go.Am
variable {T : Tab}
section
variable {k : Nat} {tg : Tags} {H : AHeap} {b : Nat} {S : Rp} {fb : Nat} {cv nv : AV} {fc fn : Option Nat} {xs : List (AV × Cel)} {ff : Nat → Option Nat}
/-- One cell alone, if it has not ended. -/
theorem from_one {cs : List Cel} (hd : ∀ i : Int, 0 ≤ i → i < cs.length → (nth cs i).e = true → strongs (nth cs i).fs = []) {j : Nat} (hj : j < cs.length) (a : Int) :
    From cs ((List.replicate cs.length false).set j (!(nth cs (j : Int)).e)) true a ↔ ∃ r ∈ strongs (nth cs (j : Int)).fs, Reach cs r a := by
  have hn : ∀ r : Int, 0 ≤ r → r < cs.length → nth ((List.replicate cs.length false).set j (!(nth cs (j : Int)).e)) r = if (j : Int) = r then !(nth cs (j : Int)).e else false := by
    intro r r0 r1
    have := nth_set (l := List.replicate cs.length false) (i := (j : Int)) (j := r) (x := !(nth cs (j : Int)).e) (by omega) (by simp; omega) r0
    rw [Int.toNat_natCast] at this
    rw [this]
    by_cases e : (j : Int) = r
    · rw [if_pos e, if_pos e]
    · rw [if_neg e, if_neg e]
      have hr : r.toNat < cs.length := by omega
      simp [nth, List.getElem?_replicate, hr]
  unfold From
  simp only [if_true]
  constructor
  · rintro ⟨r, r0, r1, hr, hx⟩
    rw [hn r r0 r1] at hr
    by_cases e : (j : Int) = r
    · subst e; exact hx
    · rw [if_neg e] at hr; cases hr
  · rintro ⟨c, hc, hx⟩
    refine ⟨j, by omega, by omega, ?_, c, hc, hx⟩
    rw [hn j (by omega) (by omega), if_pos rfl]
    cases he : (nth cs (j : Int)).e with
    | false => rfl
    | true => rw [hd j (by omega) (by omega) he] at hc; cases hc
theorem c338 (D : D338 T) (hw : WF H) (hk : TagOk tg H) (h : RpI k tg H b S fb cv nv fc fn xs ff) (g : Graph S.cells) :
    Calls T 338 [.ptr (some (b, 0))] H fun r K => Fr H K ∧ FreeL tg K r ((cycGo (lm S.cells) S.cells.length id S.cells.length).2.map ints) := by
  refine Calls.fn D.pr D.fn ?_
  have hn100 := g.shp.len
  obtain ⟨n, hn⟩ : ∃ n, S.cells.length = n := ⟨_, rfl⟩
  rw [hn] at hn100
  simp [ir338]
  refine W_loop (fun (z : Nat) e X => e 0 = .ptr (some (b, 0)) ∧ ∃ j : Nat, z + j = n ∧ e 4 = .int .i64 j ∧ Fr H X ∧ ∃ lv, e 3 = lv ∧ ∃ ls : List (List Bool), Lls encB H.next X lv ls ∧ ls.length = j ∧ ∀ i : Nat, i < j → Leads S.cells i (nth ls (i : Int))) id n ?_ ?_
  · exact ⟨by simp, 0, by simp, by simp, .refl hw, _, rfl, [], .nil, rfl, fun i hi => by omega⟩
  · rintro z e X ⟨x0, j, hj, x4, fX, lv, x3, ls, hls, hll, hle⟩
    have hX : RpI k tg X b S fb cv nv fc fn xs ff := h.fr hw fX
    have hlX := hX.lenC
    rw [hn] at hlX
    have kX : TagOk tg X := fun g hg => hk g (Nat.le_trans fX.next hg)
    simp [x0, x4, x3, hX.ldc, hlX]
    have hmk := wsem0_mks (bytes := 1) (n := n) (zero := [AV.bool false]) (k := .i64) (l := .i64) (H := X) (by omega) (by simp) rfl (by omega)
    have ow := fX.wf.own_new (enc := encB) (sz := 1) (l := List.replicate n false) (cs := (List.replicate n [AV.bool false]).flatten) (cap := some n) (by intro x _; rfl) (by simp) (by simp) (by
      rw [flat_bools]
      rw [List.take_of_length_le]
      rw [flat_len (sz := 1) (by intro x _; rfl)]
      simp)
    simp only [List.length_replicate] at ow
    have f1 := fX.wf.fr_new (cs := (List.replicate n [AV.bool false]).flatten)
    obtain ⟨Y, hY⟩ : ∃ Y, X.new (List.replicate n [AV.bool false]).flatten = Y := ⟨_, rfl⟩
    have hYn : X.next < Y.next := by rw [← hY]; exact Nat.lt_succ_self _
    rw [hY] at hmk ow f1
    simp only [List.length_cons, List.length_nil, Nat.zero_add] at hmk
    obtain ⟨dv, hdv⟩ : ∃ dv, AV.slc (some (X.next, 0)) 1 n (some n) = dv := ⟨_, rfl⟩
    rw [hdv] at ow hmk
    obtain ⟨fd, hfd⟩ : ∃ fd, X.next = fd := ⟨_, rfl⟩
    have hY1 : RpI k tg Y b S fb cv nv fc fn xs ff := hX.fr fX.wf f1
    have kY : TagOk tg Y := fun g hg => kX g (Nat.le_trans f1.next hg)
    have hlY := hY1.lenC
    rw [hn] at hlY
    refine WB.dec ?_ ?_
    · intro hlt
      have hjS : (j : Int) < S.cells.length := by omega
      obtain ⟨bo, oo, e1, e2, e3, e4, e5, e6, _⟩ := hY1.cell f1.wf kY (i := (j : Int)) (by omega) hjS
      have iac := hY1.ia (kk := .i64) (i := (j : Int)) (by omega) hjS
      have iad := ow.1.ia (k := .i64) (i := (j : Int)) (by omega) (by simp; omega)
      obtain ⟨Y2, s1, s2, s3, s4, s5⟩ := ow.stB f1.wf (i := (j : Int)) (by omega) (by simp; omega) (!(nth S.cells (j : Int)).e)
      rw [Int.toNat_natCast] at s4
      simp only [encB] at s1
      have fX2 : Fr X Y2 := f1.step s2 s3 fun g hg => by cases hg; exact Nat.le_refl _
      have hY2 : RpI k tg Y2 b S fb cv nv fc fn xs ff := hX.fr fX.wf fX2
      have kY2 : TagOk tg Y2 := fun g hg => kX g (Nat.le_trans fX2.next hg)
      simp [x0, x3, x4, hX.ldc, hlX, hmk, hY1.ldc, iac, e1, e5, iad, s1]
      refine WC.of (c372 D.d372 s2 kY2 hY2 g.shp g.to g.dry s4.1 (by simp [hn])) ?_
      rintro r X2 ⟨f2, bs, m2, l2, r2'⟩
      have hb1 := wsem0_bsl1 (v := r) (z := .slc none 0 0 none) (H := X2) m2.sl.form.1
      obtain ⟨v', X3, p1, p2, p3⟩ := Lls.push (fX.trans fX2) f2 (hls.fr fX.wf fX2) m2 (by omega)
      simp [hb1, p1, x0, x3, x4]
      refine ⟨z - 1, by omega, j + 1, by omega, by rw [wrap64 (by omega) (by omega)]; simp, p2, ls ++ [bs], p3, by simp [hll], fun i hi => ?_⟩
      rw [nth_snocL]
      by_cases hij : i < j
      · rw [if_pos (by omega)]; exact hle i hij
      · have : i = j := by omega
        subst this
        rw [if_neg (by omega), if_pos hll.symm]
        refine ⟨l2, fun a ha => ?_⟩
        rw [Bool.eq_iff_iff, lm_iff, r2' (a : Int) (by omega) (by omega), ← hn, from_one g.dry (by omega)]
    · intro hlt
      have hjn : j = n := by omega
      subst hjn
      obtain ⟨M, hM⟩ : ∃ M, lm S.cells = M := ⟨_, rfl⟩
      simp [x0, x3, hX.ldc, hlX, hmk, hY1.ldc]
      refine W_loop (fun (z : Nat) e Z => e 0 = .ptr (some (b, 0)) ∧ e 3 = lv ∧ e 7 = dv ∧ ∃ q : Nat, z + q = j ∧ e 8 = .int .i64 q ∧ Fr X Z ∧ Y.next ≤ Z.next ∧ ∃ ov, e 6 = ov ∧ LlsD (fun g => g ≤ fd) encI X.next Z ov ((cycGo M j id q).2.map ints) ∧ ∃ ds, Own encB 1 Z dv ds (some fd) ∧ DoneB j (cycGo M j id q).1 ds) id j ?_ ?_
      · refine ⟨by simp [x0], by simp [x3], by simp, 0, by simp, by simp, f1, Nat.le_refl _, _, rfl, by simp [cycGo]; exact .nil, _, by rw [← hfd]; exact ow, by simp only [cycGo]; exact .falses j⟩
      · rintro z e Z ⟨x0, x3, x7, q, hq, x8, fZ, hYZ, ov, x6, hov, ds, hds, dn⟩
        have wZ := fZ.wf
        have hZ : RpI k tg Z b S fb cv nv fc fn xs ff := hX.fr fX.wf fZ
        have hZlen := hZ.lenC
        rw [hn] at hZlen
        simp [x0, x3, x6, x7, x8, hZ.ldc, hZlen]
        refine WB.dec ?_ ?_
        · intro hlt
          have hqj : q < j := by omega
          have hlZ := hls.fr fX.wf fZ
          have iad := hds.1.ia (k := .i64) (i := (q : Int)) (by omega) (by rw [dn.1]; omega)
          have ldd := hds.1.ld (i := (q : Int)) (by omega) (by rw [dn.1]; omega)
          rw [dn.2 q hqj] at ldd
          obtain ⟨u, g1, g2, g3, g4⟩ := hlZ.get (i := q) (by rw [hll]; exact hqj)
          have hLq := hle q hqj
          have iau := g3.ia (k := .i64) (i := (q : Int)) (by omega) (by rw [hLq.1, hn]; omega)
          have ldu := g3.ld (i := (q : Int)) (by omega) (by rw [hLq.1, hn]; omega)
          rw [hLq.2 q (by omega), hM] at ldu
          have hcl := cyc_len M j id q
          have skip : (cycGo M j id q).1 q = true ∨ M q q = false → ∃ z', z' < z ∧ ∃ q', z' + q' = j ∧ IntKind.i64.wrap ((q : Int) + 1) = (q' : Int) ∧ Fr X Z ∧ Y.next ≤ Z.next ∧ LlsD (fun g => g ≤ fd) encI X.next Z ov ((cycGo M j id q').2.map ints) ∧ ∃ ds, Own encB 1 Z dv ds (some fd) ∧ DoneB j (cycGo M j id q').1 ds := by
            intro hc
            refine ⟨z - 1, by omega, q + 1, by omega, by rw [wrap64 (by omega) (by omega)]; simp, fZ, hYZ, ?_, ds, hds, ?_⟩
            · unfold cycGo; rw [if_pos hc]; exact hov
            · unfold cycGo; rw [if_pos hc]; exact dn
          cases hd : (cycGo M j id q).1 q with
          | true =>
            rw [hd] at ldd
            simp [x0, x3, x6, x7, x8, iad, ldd, encB]
            exact skip (.inl hd)
          | false =>
            rw [hd] at ldd
            cases hm : M q q with
            | false =>
              rw [hm] at ldu
              simp [x0, x3, x6, x7, x8, iad, ldd, encB, g1, g2, iau, ldu]
              exact skip (.inr hm)
            | true =>
              rw [hm] at ldu
              simp [x0, x3, x6, x7, x8, iad, ldd, encB, g1, g2, iau, ldu]
              refine W_loop (fun (y : Nat) e P => e 0 = .ptr (some (b, 0)) ∧ e 3 = lv ∧ e 6 = ov ∧ e 7 = dv ∧ e 8 = .int .i64 q ∧ ∃ i : Nat, y + i = j ∧ q ≤ i ∧ e 10 = .int .i64 i ∧ WF P ∧ Keeps (fun g => g = fd ∨ Z.next ≤ g) Z P ∧ ∃ sv, e 9 = sv ∧ Made encI 1 Z.next P sv (ints (grp M i q q)) ∧ ∃ ds, Own encB 1 P dv ds (some fd) ∧ DoneB j (fun x => (cycGo M j id q).1 x || decide (x ∈ grp M i q q)) ds) id (j - q) ?_ ?_
              · refine ⟨by simp [x0], by simp [x3], by simp [x6], by simp [x7], by simp [x8], q, by omega, Nat.le_refl _, by simp, wZ, .refl, _, rfl, ?_, ds, hds, ?_⟩
                · rw [grp_lo]; exact .nil
                · rw [grp_lo]; exact dn.congr fun i hi => by simp
              · rintro y e P ⟨x0, x3, x6, x7, x8, i, hi2, hqi, x10, wP, kP, sv, x9, mo, ds, hds, dn⟩
                have fP := fZ.step wP kP fun g hg => by omega
                have hP : RpI k tg P b S fb cv nv fc fn xs ff := hX.fr fX.wf fP
                have hPlen := hP.lenC
                rw [hn] at hPlen
                simp [x0, x3, x6, x7, x8, x10, x9, hP.ldc, hPlen]
                refine WB.dec ?_ ?_
                · intro hlt
                  have hij : i < j := by omega
                  have hlP := hls.fr fX.wf fP
                  obtain ⟨u1, a1, a2, a3, a4⟩ := hlP.get (i := q) (by rw [hll]; exact hqj)
                  obtain ⟨u2, c1, c2, c3, c4⟩ := hlP.get (i := i) (by rw [hll]; exact hij)
                  have hLi := hle i hij
                  have ia1 := a3.ia (k := .i64) (i := (i : Int)) (by omega) (by rw [hLq.1, hn]; omega)
                  have ld1 := a3.ld (i := (i : Int)) (by omega) (by rw [hLq.1, hn]; omega)
                  have ia2 := c3.ia (k := .i64) (i := (q : Int)) (by omega) (by rw [hLi.1, hn]; omega)
                  have ld2 := c3.ld (i := (q : Int)) (by omega) (by rw [hLi.1, hn]; omega)
                  rw [hLq.2 i (by omega), hM] at ld1
                  rw [hLi.2 q (by omega), hM] at ld2
                  have gs := grp_succ M i q q
                  have dg := DoneB.grp M hij dn
                  have hgl := grp_len M i q q
                  have non : ¬(M q i = true ∧ M i q = true) → ∃ y', y' < y ∧ ∃ i', y' + i' = j ∧ q ≤ i' ∧ IntKind.i64.wrap ((i : Int) + 1) = (i' : Int) ∧ WF P ∧ Keeps (fun g => g = fd ∨ Z.next ≤ g) Z P ∧ Made encI 1 Z.next P sv (ints (grp M i' q q)) ∧ ∃ ds, Own encB 1 P dv ds (some fd) ∧ DoneB j (fun x => (cycGo M j id q).1 x || decide (x ∈ grp M i' q q)) ds := by
                    intro hc
                    have hc' : ¬(q ≤ i ∧ M q i = true ∧ M i q = true) := fun h => hc h.2
                    rw [if_neg hc'] at gs dg
                    exact ⟨y - 1, by omega, i + 1, by omega, by omega, by rw [wrap64 (by omega) (by omega)]; simp, wP, kP, by rw [gs]; exact mo, ds, hds, dg⟩
                  cases h1 : M q i with
                  | false =>
                    rw [h1] at ld1
                    simp [x0, x3, x6, x7, x8, x10, x9, a1, a2, ia1, ld1, encB]
                    exact non (by simp [h1])
                  | true =>
                    rw [h1] at ld1
                    cases h2 : M i q with
                    | false =>
                      rw [h2] at ld2
                      simp [x0, x3, x6, x7, x8, x10, x9, a1, a2, ia1, ld1, c1, c2, ia2, ld2, encB]
                      exact non (by simp [h2])
                    | true =>
                      rw [h2] at ld2
                      have hc' : q ≤ i ∧ M q i = true ∧ M i q = true := ⟨by omega, h1, h2⟩
                      rw [if_pos hc'] at gs dg
                      have hb1 := wsem0_bsl1 (v := .int .i64 (i : Int)) (z := .int .i64 0) (H := P) rfl
                      have hil := ints_len (grp M i q q)
                      obtain ⟨v', P1, p1, p2, p3, p4⟩ := push_n (bytes := 8) wP kP.next mo (i : Int) (by omega) (by omega)
                      have hds1 := hds.keeps wP p3 fun g hg => by cases hg; omega
                      have iad := hds1.1.ia (k := .i64) (i := (i : Int)) (by omega) (by rw [dn.1]; omega)
                      obtain ⟨P2, s1, s2, s3, s4, s5⟩ := hds1.stB p2 (i := (i : Int)) (by omega) (by rw [dn.1]; omega) true
                      rw [Int.toNat_natCast] at s4
                      simp only [encB] at s1
                      have p4' := p4.keeps p2 s3 fun g hg _ hh => by cases hh; omega
                      rw [← ints_snoc, ← gs] at p4'
                      simp [x0, x3, x6, x7, x8, x10, x9, a1, a2, ia1, ld1, c1, c2, ia2, ld2, encB, hb1, p1, iad, s1]
                      exact ⟨y - 1, by omega, i + 1, by omega, by omega, by rw [wrap64 (by omega) (by omega)]; simp, s2, (kP.trans (p3.mono fun g hg => .inr hg)).trans (s3.mono fun g hg => .inl (by cases hg; rfl)), p4', _, s4, dg⟩
                · intro hlt
                  have hij : i = j := by omega
                  subst hij
                  have hc : ¬((cycGo M i id q).1 q = true ∨ M q q = false) := by simp [hd, hm]
                  obtain ⟨v', P1, p1, p2, p3, p4⟩ := LlsD.push (n := X.next) wZ wP (kP.mono fun g hg => hg.imp (fun e => by omega) id) fZ.next (fun g hg => by omega) hov mo (by simp; omega)
                  have hb1 := wsem0_bsl1 (v := sv) (z := .slc none 0 0 none) (H := P) mo.sl.form.1
                  have hds1 := hds.keeps wP p3 fun g hg hh => by cases hg; exact hh.2 (Nat.le_refl _)
                  simp [x0, x3, x6, x7, x8, x10, x9, hb1, p1]
                  refine ⟨z - 1, by omega, q + 1, by omega, by rw [wrap64 (by omega) (by omega)]; simp, (fZ.step wP kP fun g hg => by omega).step p2 p3 fun g hg => hg.1, by have := kP.next; have := p3.next; omega, ?_, ds, hds1, ?_⟩
                  · unfold cycGo; rw [if_neg hc]; simpa using p4
                  · unfold cycGo; rw [if_neg hc]; exact dn
        · intro hlt
          have hqj : q = j := by omega
          subst hqj
          simp [x6]
          refine ⟨fX.trans fZ, ?_⟩
          rw [hn, hM]
          refine hov.free fun g hg => ?_
          apply Classical.byContradiction
          intro hc
          exact hg (hk g (by have := fX.next; omega))
end
end Go.Am
