/- Contract: Cycles of the program. -/
import Derived.Test.YtigpdaofldfkoaaAmCycL
set_option linter.unusedVariables false
set_option linter.unusedSimpArgs false
namespace Go.Am
variable {T : Tab}
section
variable {k : Nat} {tg tg' : Tags} {H H' : AHeap} {b : Nat} {S : Hp}
theorem Rd.up {α : Type} {enc : α → AV} {sz : Nat} {E : Nat → Prop} {v : AV} {l : List α} (h : Rd (fun g => tg g ≠ Option.none ∨ E g) enc sz H v l) (hw : WF H) (u : Up k tg tg' H H') : Rd (fun g => tg' g ≠ Option.none ∨ E g) enc sz H' v l := by
  have h0 : Rd (tg.own k) enc sz H v l := h.mono fun g hg => by obtain ⟨t, ht⟩ := hg; rw [ht]; simp
  have h1 := h0.keepsD u.keeps
  refine ⟨h1.1, ?_⟩
  intro b off sv n c f cs e hr hd
  subst e
  have h2 := h.2
  obtain ⟨_, p, sv', cap', e, _, h5⟩ := h.1
  cases e
  obtain ⟨_, f', cs', h6, _⟩ := h5
  have hn := h0.2 b off sv _ c f' cs' rfl h6
  have hq := h2 b off sv _ c f' cs' rfl h6
  have := u.keeps.row _ _ _ h6 hn
  rw [hr] at this
  cases this
  rcases hd with hd | hd
  · rcases u.tag f with e | ⟨e, _⟩
    · rw [e] at hd; exact hq (.inl hd)
    · rcases e with e | e
      · exact hn e
      · have := hw.row_fam h6; omega
  · exact hq (.inr hd)
/-- A list of lists of nobody. -/
def FreeL (tg : Tags) (E : Nat → Prop) (H : AHeap) (v : AV) (ls : List (List Int)) : Prop :=
  ∃ (vs : List AV) (f : Option Nat), Own encA 1 H v vs f ∧ (∀ g, f = some g → ¬(tg g ≠ Option.none ∨ E g)) ∧ vs.length = ls.length ∧ ∀ i : Nat, i < ls.length → Rd (fun g => tg g ≠ Option.none ∨ E g) encI 1 H (encA (nth vs (i : Int))) (nth ls (i : Int))
theorem FreeL.up {E : Nat → Prop} {v : AV} {ls : List (List Int)} (h : FreeL tg E H v ls) (hw : WF H) (u : Up k tg tg' H H') : FreeL tg' E H' v ls := by
  obtain ⟨vs, f, h1, h2, h3, h4⟩ := h
  have hno : ∀ g, f = some g → ¬tg.own k g := by
    rintro g hg ⟨t, ht⟩
    exact h2 g hg (.inl (by rw [ht]; simp))
  refine ⟨vs, f, h1.keeps hw u.keeps hno, fun g hg => ?_, h3, fun i hi => (h4 i hi).up hw u⟩
  have hl := h1.2
  rw [hg] at hl
  have hl := hl.lt hw
  rintro (hd | hd)
  · rcases u.tag g with e | ⟨e, _⟩
    · rw [e] at hd; exact h2 g hg (.inl hd)
    · rcases e with e | e
      · exact absurd e (hno g hg)
      · omega
  · exact h2 g hg (.inr hd)
theorem FreeL.keeps {D E : Nat → Prop} {v : AV} {ls : List (List Int)} (h : FreeL tg E H v ls) (hw : WF H) (u : Keeps D H H') (hD : ∀ g, D g → E g) : FreeL tg E H' v ls := by
  obtain ⟨vs, f, h1, h2, h3, h4⟩ := h
  exact ⟨vs, f, h1.keeps hw u fun g hg hd => h2 g hg (.inr (hD g hd)), h2, h3, fun i hi => (h4 i hi).keepsD (u.mono fun g hg => .inr (hD g hg))⟩
theorem FreeL.get {E : Nat → Prop} {v : AV} {ls : List (List Int)} (h : FreeL tg E H v ls) {i : Nat} (hi : i < ls.length) :
    ∃ u, psem (.ia 1) [v, .int .i64 i] = some (elt v 1 i) ∧ rsem (.ld 1 false) [elt v 1 (i : Int)] H = some u ∧ Sl encI 1 H u (nth ls (i : Int)) := by
  obtain ⟨vs, f, h1, h2, h3, h4⟩ := h
  exact ⟨_, h1.1.ia (by omega) (by omega), h1.1.ld (by omega) (by omega), (h4 i hi).1⟩
theorem FreeL.len {E : Nat → Prop} {v : AV} {ls : List (List Int)} (h : FreeL tg E H v ls) : psem .len [v] = some (.int .i64 ls.length) := by
  obtain ⟨vs, f, h1, h2, h3, h4⟩ := h
  rw [h1.1.len, h3]
theorem LlsD.free {D E : Nat → Prop} {n : Nat} {v : AV} {ls : List (List Int)} (h : LlsD D encI n H v ls) (hD : ∀ g, tg g ≠ Option.none ∨ E g → D g) : FreeL tg E H v ls := by
  obtain ⟨vs, f, h1, h2, h3, h4⟩ := h
  exact ⟨vs, f, h1, fun g hg hc => (h2 g hg).2 (hD g hc), h3, fun i hi => (h4 i hi).mono fun g hg => .inr (hD g hg)⟩
theorem c337 (D : D337 T) (hw : WF H) (hk : TagOk tg H) (h : HpR k tg H b 0 S) (hs : Shp S.cells) (ht : ∀ c ∈ S.cells, ∀ t ∈ strongs c.fs, 0 ≤ t ∧ t < S.cells.length) :
    Calls T 337 [.ptr (some (b, 0))] H fun r K => ∃ tg', Up k tg tg' H K ∧ HpR k tg' K b 0 S ∧ FreeL tg' (fun g => g < H.next) K r ((cycGo (lm S.cells) S.cells.length (fun _ => 0) S.cells.length).2.map ints) := by
  refine Calls.fnD D.pr D.fn ?_
  simp [ir337]
  refine WC.of (c357 D.d357 hw hk h) ?_
  rintro r K ⟨rfl, tg1, u1, h1⟩
  obtain ⟨fb, m, cv, nv, fc, fn, xs, ff, hi⟩ := h1
  have wK := u1.wf
  have hn100 := hs.len
  obtain ⟨n, hn⟩ : ∃ n, S.cells.length = n := ⟨_, rfl⟩
  rw [hn] at hn100
  have hlen := hi.lenC
  rw [hn] at hlen
  simp [hi.ldc, hlen]
  refine W_loop (fun (z : Nat) e X => e 0 = .ptr (some (b, 0)) ∧ e 1048576 = .tup [.fn 381 [.ptr (some (b, 0))] []] ∧ e 18 = .int .i64 n ∧ ∃ j : Nat, z + j = n ∧ e 19 = .int .i64 j ∧ Fr K X ∧ ∃ lv, e 3 = lv ∧ ∃ ls : List (List Bool), Lls encB K.next X lv ls ∧ ls.length = j ∧ ∀ i : Nat, i < j → Leads S.cells i (nth ls (i : Int))) id n ?_ ?_
  · exact ⟨by simp, by simp, by simp, 0, by simp, by simp, .refl wK, _, rfl, [], .nil, rfl, fun i hi => by omega⟩
  · rintro z e X ⟨x0, xd, x18, j, hj, x19, fX, lv, x3, ls, hls, hll, hle⟩
    simp [x0, xd, x18, x19, x3]
    refine WB.dec ?_ ?_
    · intro hlt
      have hjS : (j : Int) < S.cells.length := by omega
      have hX : HpI k tg1 X b 1 S fb m cv nv fc fn xs ff := hi.keeps wK fX.keeps fun g t hg htg => ⟨by omega, htg⟩
      have kX : TagOk tg1 X := fun g hg => u1.ok g (Nat.le_trans fX.next hg)
      have hfl := hs.fl _ (nth_mem (l := S.cells) (i := (j : Int)) (by omega) hjS)
      have hsl := strongs_len (nth S.cells (j : Int)).fs
      simp [x0, x3, x19]
      refine WC.of (c371 D.d371 fX.wf kX hX (i := (j : Int)) (by omega) hjS hfl) ?_
      rintro r X1 ⟨f1, m1⟩
      have hX1 : HpI k tg1 X1 b 1 S fb m cv nv fc fn xs ff := hX.keeps fX.wf f1.keeps fun g t hg htg => ⟨by omega, htg⟩
      have kX1 : TagOk tg1 X1 := fun g hg => kX g (Nat.le_trans f1.next hg)
      simp
      refine WC.of (c370 D.d370 f1.wf kX1 hX1 hs ht m1.sl (fun a ha => ht _ (nth_mem (by omega) hjS) a ha) (by omega)) ?_
      rintro r2 X2 ⟨f2, bs, m2, l2, r2'⟩
      have hb1 := wsem0_bsl1 (v := r2) (z := .slc none 0 0 none) (H := X2) m2.sl.form.1
      obtain ⟨v', X3, p1, p2, p3⟩ := Lls.push (fX.trans f1) f2 (hls.fr fX.wf f1) m2 (by omega)
      simp [hb1, p1, x19, x0, xd, x18]
      refine ⟨z - 1, by omega, j + 1, by omega, by rw [wrap64 (by omega) (by omega)]; simp, p2, ls ++ [bs], p3, by simp [hll], fun i hi => ?_⟩
      rw [nth_snocL]
      by_cases hij : i < j
      · rw [if_pos (by omega)]; exact hle i hij
      · have : i = j := by omega
        subst this
        rw [if_neg (by omega), if_pos hll.symm]
        refine ⟨l2, fun a ha => ?_⟩
        rw [Bool.eq_iff_iff, lm_iff, r2' (a : Int) (by omega) (by omega)]
    · intro hlt
      have hjn : j = n := by omega
      subst hjn
      have hX : HpI k tg1 X b 1 S fb m cv nv fc fn xs ff := hi.keeps wK fX.keeps fun g t hg htg => ⟨by omega, htg⟩
      have hmk := wsem0_mks (bytes := 1) (n := j) (zero := [AV.bool false]) (k := .i64) (l := .i64) (H := X) (by omega) (by simp) rfl (by omega)
      have ow := fX.wf.own_new (enc := encB) (sz := 1) (l := List.replicate j false) (cs := (List.replicate j [AV.bool false]).flatten) (cap := some j) (by intro x _; rfl) (by simp) (by simp) (by
        rw [flat_bools]
        rw [List.take_of_length_le]
        rw [flat_len (sz := 1) (by intro x _; rfl)]
        simp)
      simp only [List.length_replicate] at ow
      have f1 := fX.wf.fr_new (cs := (List.replicate j [AV.bool false]).flatten)
      obtain ⟨Y, hY⟩ : ∃ Y, X.new (List.replicate j [AV.bool false]).flatten = Y := ⟨_, rfl⟩
      have hYn : X.next < Y.next := by rw [← hY]; exact Nat.lt_succ_self _
      rw [hY] at hmk ow f1
      simp only [List.length_cons, List.length_nil, Nat.zero_add] at hmk
      obtain ⟨dv, hdv⟩ : ∃ dv, AV.slc (some (X.next, 0)) 1 j (some j) = dv := ⟨_, rfl⟩
      rw [hdv] at ow hmk
      obtain ⟨fd, hfd⟩ : ∃ fd, X.next = fd := ⟨_, rfl⟩
      have hXlen := hX.lenC
      rw [hn] at hXlen
      have hY1 : HpI k tg1 Y b 1 S fb m cv nv fc fn xs ff := hX.keeps fX.wf f1.keeps fun g t hg htg => ⟨by omega, htg⟩
      obtain ⟨M, hM⟩ : ∃ M, lm S.cells = M := ⟨_, rfl⟩
      simp [x0, xd, hX.ldc, hXlen, hmk, hY1.ldc]
      refine W_loop (fun (z : Nat) e Z => e 0 = .ptr (some (b, 0)) ∧ e 1048576 = .tup [.fn 381 [.ptr (some (b, 0))] []] ∧ e 3 = lv ∧ e 6 = dv ∧ e 41 = .int .i64 j ∧ ∃ q : Nat, z + q = j ∧ e 42 = .int .i64 q ∧ Fr X Z ∧ Y.next ≤ Z.next ∧ ∃ ov, e 5 = ov ∧ LlsD (fun g => g ≤ fd) encI X.next Z ov ((cycGo M j (fun _ => 0) q).2.map ints) ∧ ∃ ds, Own encB 1 Z dv ds (some fd) ∧ DoneB j (cycGo M j (fun _ => 0) q).1 ds) id j ?_ ?_
      · refine ⟨by simp [x0], by simp [xd], by simp [x3], by simp, by simp, 0, by simp, by simp, f1, Nat.le_refl _, _, rfl, by simp [cycGo]; exact .nil, _, by rw [← hfd]; exact ow, by simp only [cycGo]; exact .falses j⟩
      · rintro z e Z ⟨x0, xd, x3, x6, x41, q, hq, x42, fZ, hYZ, ov, x5, hov, ds, hds, dn⟩
        simp [x0, xd, x3, x6, x41, x42, x5]
        refine WB.dec ?_ ?_
        · intro hlt
          have hqj : q < j := by omega
          have wZ := fZ.wf
          have hlZ := hls.fr fX.wf fZ
          have hZ : HpI k tg1 Z b 1 S fb m cv nv fc fn xs ff := hX.keeps fX.wf fZ.keeps fun g t hg htg => ⟨by omega, htg⟩
          have hZlen := hZ.lenC
          rw [hn] at hZlen
          have iad := hds.1.ia (k := .i64) (i := (q : Int)) (by omega) (by rw [dn.1]; omega)
          have ldd := hds.1.ld (i := (q : Int)) (by omega) (by rw [dn.1]; omega)
          rw [dn.2 q hqj] at ldd
          obtain ⟨u, g1, g2, g3, g4⟩ := hlZ.get (i := q) (by rw [hll]; exact hqj)
          have hLq := hle q hqj
          have iau := g3.ia (k := .i64) (i := (q : Int)) (by omega) (by rw [hLq.1, hn]; omega)
          have ldu := g3.ld (i := (q : Int)) (by omega) (by rw [hLq.1, hn]; omega)
          rw [hLq.2 q (by omega), hM] at ldu
          have hcl := cyc_len M j (fun _ => 0) q
          have skip : (cycGo M j (fun _ => 0) q).1 q = true ∨ M q q = false → ∃ z', z' < z ∧ ∃ q', z' + q' = j ∧ IntKind.i64.wrap ((q : Int) + 1) = (q' : Int) ∧ Fr X Z ∧ Y.next ≤ Z.next ∧ LlsD (fun g => g ≤ fd) encI X.next Z ov ((cycGo M j (fun _ => 0) q').2.map ints) ∧ ∃ ds, Own encB 1 Z dv ds (some fd) ∧ DoneB j (cycGo M j (fun _ => 0) q').1 ds := by
            intro hc
            refine ⟨z - 1, by omega, q + 1, by omega, by rw [wrap64 (by omega) (by omega)]; simp, fZ, hYZ, ?_, ds, hds, ?_⟩
            · unfold cycGo; rw [if_pos hc]; exact hov
            · unfold cycGo; rw [if_pos hc]; exact dn
          cases hd : (cycGo M j (fun _ => 0) q).1 q with
          | true =>
            rw [hd] at ldd
            simp [x0, xd, x3, x6, x41, x42, x5, iad, ldd, encB]
            exact skip (.inl hd)
          | false =>
            rw [hd] at ldd
            cases hm : M q q with
            | false =>
              rw [hm] at ldu
              simp [x0, xd, x3, x6, x41, x42, x5, iad, ldd, encB, g1, g2, iau, ldu]
              exact skip (.inr hm)
            | true =>
              rw [hm] at ldu
              simp [x0, xd, x3, x6, x41, x42, x5, iad, ldd, encB, g1, g2, iau, ldu, hZ.ldc, hZlen]
              refine W_loop (fun (y : Nat) e P => e 0 = .ptr (some (b, 0)) ∧ e 1048576 = .tup [.fn 381 [.ptr (some (b, 0))] []] ∧ e 3 = lv ∧ e 5 = ov ∧ e 6 = dv ∧ e 7 = .int .i64 q ∧ e 41 = .int .i64 j ∧ e 42 = .int .i64 q ∧ e 63 = .int .i64 j ∧ ∃ i : Nat, y + i = j ∧ e 64 = .int .i64 i ∧ WF P ∧ Keeps (fun g => g = fd ∨ Z.next ≤ g) Z P ∧ ∃ sv, e 8 = sv ∧ Made encI 1 Z.next P sv (ints (grp M i q 0)) ∧ ∃ ds, Own encB 1 P dv ds (some fd) ∧ DoneB j (fun x => (cycGo M j (fun _ => 0) q).1 x || decide (x ∈ grp M i q 0)) ds) id j ?_ ?_
              · refine ⟨by simp [x0], by simp [xd], by simp [x3], by simp [x5], by simp [x6], by simp [x42], by simp [x41], by simp [x42], by simp, 0, by simp, by simp, wZ, .refl, _, rfl, ?_, ds, hds, ?_⟩
                · rw [grp_lo]; exact .nil
                · rw [grp_lo]; exact dn.congr fun i hi => by simp
              · rintro y e P ⟨x0, xd, x3, x5, x6, x7, x41, x42, x63, i, hi2, x64, wP, kP, sv, x8, mo, ds, hds, dn⟩
                simp [x0, xd, x3, x5, x6, x7, x41, x42, x63, x64, x8]
                refine WB.dec ?_ ?_
                · intro hlt
                  have hij : i < j := by omega
                  have fP : Fr Z P → True := fun _ => trivial
                  have hlP := hls.fr fX.wf (fZ.step wP kP fun g hg => by omega)
                  obtain ⟨u1, a1, a2, a3, a4⟩ := hlP.get (i := q) (by rw [hll]; exact hqj)
                  obtain ⟨u2, c1, c2, c3, c4⟩ := hlP.get (i := i) (by rw [hll]; exact hij)
                  have hLi := hle i hij
                  have ia1 := a3.ia (k := .i64) (i := (i : Int)) (by omega) (by rw [hLq.1, hn]; omega)
                  have ld1 := a3.ld (i := (i : Int)) (by omega) (by rw [hLq.1, hn]; omega)
                  have ia2 := c3.ia (k := .i64) (i := (q : Int)) (by omega) (by rw [hLi.1, hn]; omega)
                  have ld2 := c3.ld (i := (q : Int)) (by omega) (by rw [hLi.1, hn]; omega)
                  rw [hLq.2 i (by omega), hM] at ld1
                  rw [hLi.2 q (by omega), hM] at ld2
                  have gs := grp_succ M i q 0
                  have dg := DoneB.grp M hij dn
                  have hgl := grp_len M i q 0
                  have non : ¬(M q i = true ∧ M i q = true) → ∃ y', y' < y ∧ ∃ i', y' + i' = j ∧ IntKind.i64.wrap ((i : Int) + 1) = (i' : Int) ∧ WF P ∧ Keeps (fun g => g = fd ∨ Z.next ≤ g) Z P ∧ Made encI 1 Z.next P sv (ints (grp M i' q 0)) ∧ ∃ ds, Own encB 1 P dv ds (some fd) ∧ DoneB j (fun x => (cycGo M j (fun _ => 0) q).1 x || decide (x ∈ grp M i' q 0)) ds := by
                    intro hc
                    have hc' : ¬(0 ≤ i ∧ M q i = true ∧ M i q = true) := fun h => hc h.2
                    rw [if_neg hc'] at gs dg
                    exact ⟨y - 1, by omega, i + 1, by omega, by rw [wrap64 (by omega) (by omega)]; simp, wP, kP, by rw [gs]; exact mo, ds, hds, dg⟩
                  cases h1 : M q i with
                  | false =>
                    rw [h1] at ld1
                    simp [x0, xd, x3, x5, x6, x7, x41, x42, x63, x64, x8, a1, a2, ia1, ld1, encB]
                    exact non (by simp [h1])
                  | true =>
                    rw [h1] at ld1
                    cases h2 : M i q with
                    | false =>
                      rw [h2] at ld2
                      simp [x0, xd, x3, x5, x6, x7, x41, x42, x63, x64, x8, a1, a2, ia1, ld1, c1, c2, ia2, ld2, encB]
                      exact non (by simp [h2])
                    | true =>
                      rw [h2] at ld2
                      have hc' : 0 ≤ i ∧ M q i = true ∧ M i q = true := ⟨by omega, h1, h2⟩
                      rw [if_pos hc'] at gs dg
                      have hb1 := wsem0_bsl1 (v := .int .i64 (i : Int)) (z := .int .i64 0) (H := P) rfl
                      have hil := ints_len (grp M i q 0)
                      obtain ⟨v', P1, p1, p2, p3, p4⟩ := push_n (bytes := 8) wP kP.next mo (i : Int) (by omega) (by omega)
                      have hds1 := hds.keeps wP p3 fun g hg => by cases hg; omega
                      have iad := hds1.1.ia (k := .i64) (i := (i : Int)) (by omega) (by rw [dn.1]; omega)
                      obtain ⟨P2, s1, s2, s3, s4, s5⟩ := hds1.stB p2 (i := (i : Int)) (by omega) (by rw [dn.1]; omega) true
                      rw [Int.toNat_natCast] at s4
                      simp only [encB] at s1
                      have p4' := p4.keeps p2 s3 fun g hg _ hh => by cases hh; omega
                      rw [← ints_snoc, ← gs] at p4'
                      simp [x0, xd, x3, x5, x6, x7, x41, x42, x63, x64, x8, a1, a2, ia1, ld1, c1, c2, ia2, ld2, encB, hb1, p1, iad, s1]
                      exact ⟨y - 1, by omega, i + 1, by omega, by rw [wrap64 (by omega) (by omega)]; simp, s2, (kP.trans (p3.mono fun g hg => .inr hg)).trans (s3.mono fun g hg => .inl (by cases hg; rfl)), p4', _, s4, dg⟩
                · intro hlt
                  have hij : i = j := by omega
                  subst hij
                  have hc : ¬((cycGo M i (fun _ => 0) q).1 q = true ∨ M q q = false) := by simp [hd, hm]
                  obtain ⟨v', P1, p1, p2, p3, p4⟩ := LlsD.push (n := X.next) wZ wP (kP.mono fun g hg => hg.imp (fun e => by omega) id) fZ.next (fun g hg => by omega) hov mo (by simp; omega)
                  have hb1 := wsem0_bsl1 (v := sv) (z := .slc none 0 0 none) (H := P) mo.sl.form.1
                  have hds1 := hds.keeps wP p3 fun g hg hh => by cases hg; exact hh.2 (Nat.le_refl _)
                  simp [x0, xd, x3, x5, x6, x7, x41, x42, x63, x64, x8, hb1, p1]
                  refine ⟨z - 1, by omega, q + 1, by omega, by rw [wrap64 (by omega) (by omega)]; simp, (fZ.step wP kP fun g hg => by omega).step p2 p3 fun g hg => hg.1, by have := kP.next; have := p3.next; omega, ?_, ds, hds1, ?_⟩
                  · unfold cycGo; rw [if_neg hc]; simpa using p4
                  · unfold cycGo; rw [if_neg hc]; exact dn
        · intro hlt
          have hqj : q = j := by omega
          subst hqj
          have ffr := fX.trans fZ
          have u2 := u1.trans hw (Up.fr (k := k) u1.wf u1.ok ffr)
          have h2 : HpR k tg1 Z b 1 S := HpR.fr ⟨_, _, _, _, _, _, _, _, hi⟩ u1.wf ffr
          simp [x5, xd]
          refine (unlock D.d357.d381 u2.wf u2.ok h2).imp ?_
          rintro V ⟨tg3, u3, g3⟩
          refine ⟨tg3, u2.trans hw u3, g3, ?_⟩
          rw [hn, hM]
          refine (hov.free fun g hg => ?_).up u2.wf u3
          apply Classical.byContradiction
          intro hc
          rcases hg with hg | hg
          · exact hg (u1.ok g (by have := fX.next; omega))
          · have := fX.next; have := u1.keeps.next; omega
end
end Go.Am
