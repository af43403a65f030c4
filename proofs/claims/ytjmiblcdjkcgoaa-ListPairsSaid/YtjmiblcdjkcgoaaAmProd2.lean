/- Contracts: lists multiplied, as the document has it; the law. -/
import Derived.Test.YtjmiblcdjkcgoaaAmProd
set_option linter.unusedVariables false
set_option linter.unusedSimpArgs false
namespace Go.Am
variable {T : Tab}

theorem c140 (D : D140 T) {H : AHeap} (hw : WF H) {v : AV} {ls : List (List (List UInt8))} (hv : Sls H v ls) : Calls T 140 [v] H fun r H' => Fr H H' ∧ ∃ a, r = .tup [a, .int .i64 (prodR ls).2] ∧ Sls H' a (prodR ls).1 := by
  refine Calls.fn D.pr D.fn ?_
  simp [ir140]
  refine WC.of (c163 D.d163 hv) ?_
  rintro r H ⟨rfl, rfl⟩
  cases hm : manyB ls with
  | true =>
    have eR : prodR ls = ([], 3) := by unfold prodR; rw [if_pos hm]
    rw [eR]
    simp
    exact ⟨.refl hw, sls_nil⟩
  | false =>
  obtain ⟨hl, hla⟩ := many_false hm
  have eR : prodR ls = if anyE ls then ([], 0) else if 200 < (prodA ls).length then ([], 3) else (prodA ls, 0) := by unfold prodR; rw [if_neg (by simp [hm])]
  rw [eR]
  have hcr := capP_rng (C := 40000) (by omega) ls
  have hce := fun he : anyE ls = false => cap_eq (C := 40000) (by omega) he ls.length (Nat.le_refl _)
  rw [List.take_length] at hce
  obtain ⟨b, hb⟩ : ∃ b, anyE ls = b := ⟨_, rfl⟩
  rw [hb]
  simp
  refine W_loop (fun (i : Nat) e K => K = H ∧ e 0 = v ∧ ∃ j : Nat, i + j = ls.length ∧ e 5 = .int .i64 j ∧ e 4 = .int .i64 (capP 40000 (ls.take j)) ∧ anyE (ls.drop j) = b) id ls.length ?_ ?_
  · exact ⟨rfl, by simp, 0, by simp, by simp, by simp [capP], by simpa using hb⟩
  · rintro i e H ⟨rfl, h0, j, hj, h5, h4, he⟩
    by_cases hjl : j < ls.length
    · obtain ⟨u, l1, su⟩ := hv.get hjl
      have et := capP_snoc 40000 (ls.take j) (nth ls (j : Int))
      rw [← take_nth hjl] at et
      have r1 := hcr j (by omega)
      have hlm := hla _ (nth_mem hjl)
      rw [drop_nthG hjl] at he
      unfold anyE at he
      rw [List.any_cons] at he
      generalize nth ls (j : Int) = m at *
      generalize capP 40000 (ls.take j) = q at *
      have p0 : 0 ≤ q * (m.length : Int) := Int.mul_nonneg r1.1 (by omega)
      have p1 : q * (m.length : Int) ≤ 40000 * 200 := Int.mul_le_mul r1.2 (by omega) (by omega) (by omega)
      obtain ⟨p, hp⟩ : ∃ p, q * (m.length : Int) = p := ⟨_, rfl⟩
      by_cases hm0 : m = []
      · subst hm0
        have : b = true := by rw [← he]; simp
        subst this
        simp (disch := omega) [h0, h4, h5, hjl, hv.len, hv.ia, l1, su.len]
        exact ⟨.refl hw, sls_nil⟩
      · have hml : ¬ m.length = 0 := by intro h; exact hm0 (List.eq_nil_of_length_eq_zero h)
        rw [hp] at p0 p1 et
        simp (disch := omega) [h0, h4, h5, hjl, hv.len, hv.ia, l1, su.len, hm0, hml, hp, wrap64]
        refine ⟨i - 1, by omega, j + 1, by omega, by omega, by rw [et], ?_⟩
        unfold anyE
        cases m with
        | nil => exact absurd rfl hm0
        | cons x y => simpa using he
    · rw [List.take_of_length_le (by omega)] at h4
      rw [List.drop_eq_nil_of_le (by omega)] at he
      have hb2 : b = false := by rw [← he]; rfl
      subst hb2
      have hcap := hce hb
      clear he hj
      by_cases hbig : 200 < (prodA ls).length
      · rw [if_neg (by simp), if_pos hbig]
        simp (disch := omega) [h0, h4, h5, hjl, hv.len, show (200 : Int) < capP 40000 ls by omega]
        exact ⟨.refl hw, sls_nil⟩
      rw [if_neg (by simp), if_neg hbig]
      have hple := fun {j : Nat} => prodA_le hb (j := j) (by omega)
      have hb1 : wsem0 (.bsl 1 1 [.slc none 0 0 none] [(0, 1)]) [.slc none 0 0 none] H = some (.slc (some (H.next, 0)) 1 1 (some 1), H.new [.slc none 0 0 none]) := wsem0_bsl1 rfl
      simp (disch := omega) [h0, h4, h5, hjl, hv.len, hb1, show ¬ (200 : Int) < capP 40000 ls by omega]
      have fn : Fr H (H.new [.slc none 0 0 none]) := hw.fr_new
      refine W_loop (fun (i : Nat) e K => Fr H K ∧ e 0 = v ∧ ∃ j : Nat, i + j = ls.length ∧ e 7 = .int .i64 j ∧ ∃ ov, e 6 = ov ∧ Sls K ov (prodA (ls.take j))) id ls.length ?_ ?_
      · exact ⟨fn, by simp [h0], 0, by simp, by simp, _, by simp; rfl, by simpa [prodA] using sls_one hw⟩
      · rintro i e K0 ⟨fr0, h0, j, hj, h7, ov, h6, so⟩
        have hv0 := hv.fr hw fr0
        by_cases hjl : j < ls.length
        · obtain ⟨u, su, l1f⟩ := hv0.getF fr0.wf hjl
          have eP : prodA (ls.take (j + 1)) = prodL (prodA (ls.take j)) (nth ls (j : Int)) := by rw [take_nth hjl, prodA_snoc]
          have hlm := hla _ (nth_mem hjl)
          have hol := hple (j := j) (by omega)
          have hom := prodA_mem (ls := ls) j (by omega)
          have hvia := fun {k : IntKind} => hv0.ia (k := k) (i := (j : Int)) (by omega) (by omega)
          generalize nth ls (j : Int) = m at *
          generalize prodA (ls.take j) = outs at *
          simp (disch := omega) [h0, h6, h7, hjl, hv0.len]
          refine W_loop (fun (n : Nat) e K => Fr K0 K ∧ e 0 = v ∧ e 7 = .int .i64 j ∧ e 6 = ov ∧ ∃ k : Nat, n + k = outs.length ∧ e 9 = .int .i64 k ∧ ∃ nv, e 8 = nv ∧ Outs K0.next K nv (prodL (outs.take k) m)) id outs.length ?_ ?_
          · exact ⟨.refl fr0.wf, by simp [h0], by simp [h7], by simp [h6], 0, by simp, by simp, _, by simp; rfl, by simpa [prodL] using Outs.nil⟩
          · rintro n e K ⟨frK, g0, g7, g6, k, hk, g9, nv, g8, oN⟩
            by_cases hkl : k < outs.length
            · obtain ⟨av, sa, l2f⟩ := so.getF fr0.wf hkl
              have eN := prodL_take (l := m) hkl
              have hal := hom _ (nth_mem hkl)
              have hoia := fun {q : IntKind} => so.ia (k := q) (i := (k : Int)) (by omega) (by omega)
              have hPl : (prodL (outs.take k) m).length ≤ 200 * 200 := by
                rw [prodL_len, List.length_take]
                exact Nat.mul_le_mul (by omega) (by omega)
              generalize nth outs (k : Int) = a at *
              generalize prodL (outs.take k) m = nx at *
              simp (disch := omega) [g0, g6, g7, g8, g9, hkl, so.len]
              refine W_loop (fun (n : Nat) e K' => e 0 = v ∧ e 7 = .int .i64 j ∧ e 6 = ov ∧ e 9 = .int .i64 k ∧ ∃ q : Nat, n + q = m.length ∧ e 10 = .int .i64 q ∧ ∃ nv, e 8 = nv ∧ Fr K0 K' ∧ Outs K0.next K' nv (nx ++ (m.map fun s => a ++ [s]).take q)) id m.length ?_ ?_
              · exact ⟨by simp [g0], by simp [g7], by simp [g6], by simp [g9], 0, by simp, by simp, nv, by simp [g8], frK, by simpa using oN⟩
              · rintro p e K1 ⟨g0, g7, g6, g9, q, hq, g10, nv, g8, f01, oN⟩
                have l1 := l1f f01
                have l2 := l2f f01
                have su1 := su.fr fr0.wf f01
                by_cases hqm : q < m.length
                · have sa1 := sa.fr fr0.wf f01
                  have lv := su1.ld (i := (q : Int)) (by omega) (by omega)
                  have eM := map_take (a := a) hqm
                  have uia := fun {z : IntKind} => su1.ia (k := z) (i := (q : Int)) (by omega) (by omega)
                  obtain ⟨s, hs⟩ : ∃ s, nth m (q : Int) = s := ⟨_, rfl⟩
                  rw [hs] at lv eM
                  simp (disch := omega) [g0, g7, g10, hqm, hvia, l1, su1.len]
                  obtain ⟨c, K2, p0, f2, md⟩ := app_made (bytes := 16) (.refl f01.wf) (v := .slc none 0 0 none) (enc := encS) (sz := 1) (l := []) (Made.nil (n := K1.next)) sa1 (by simp) (Cell.all _) (by simp; omega) (by simp; omega)
                  rw [List.nil_append] at md
                  have f02 := f01.trans f2
                  have l1' := l1f f02
                  have lv' := (su.fr fr0.wf f02).ld (i := (q : Int)) (by omega) (by omega)
                  rw [hs] at lv'
                  have l2' := l2f f02
                  have f2n : Fr K2 (K2.new [.str s]) := f2.wf.fr_new
                  have l2n := l2f (f02.trans f2n)
                  obtain ⟨a', K3, p1, f3, md3⟩ := push1_made (bytes := 16) f2 md s (by omega) (by omega)
                  have hb2 : wsem0 (.bsl 1 1 [.str []] [(0, 1)]) [.str s] K2 = some (.slc (some (K2.next, 0)) 1 1 (some 1), K2.new [.str s]) := wsem0_bsl1 rfl
                  have p1 : wsem0 (.app 1 16) [c, .slc (some (K2.next, 0)) 1 1 (some 1)] (K2.new [.str s]) = some (a', K3) := p1
                  have hb3 : wsem0 (.bsl 1 1 [.slc none 0 0 none] [(0, 1)]) [a'] K3 = some (.slc (some (K3.next, 0)) 1 1 (some 1), K3.new [a']) := wsem0_bsl1 md3.sl.form.1
                  have hln : (nx ++ (m.map fun s => a ++ [s]).take q).length ≤ 200 * 200 + 200 := by
                    rw [List.length_append, List.length_take, List.length_map]; omega
                  obtain ⟨v', K4, r1, f4, oN4⟩ := oN.push f01 f3 md3 (by omega)
                  rw [List.append_assoc, ← eM] at oN4
                  refine W_floats ?_
                  simp [g0, g6, g7, g8, g9, g10, hvia, hoia, uia, l1, l2, lv, l1', l2', l2n, lv', p0, p1, hb2, hb3, r1]
                  simp [floatOk, wanted, AV.same_refl, l1, l2, lv, l1', l2', l2n, lv']
                  simp (disch := omega) [g0, g6, g7, g9, g10, wrap64]
                  exact ⟨p - 1, by omega, q + 1, by omega, by omega, f4, oN4⟩
                · rw [List.take_of_length_le (by simp; omega)] at oN
                  simp (disch := omega) [g0, g6, g7, g8, g9, g10, hvia, l1, su1.len, hqm, wrap64]
                  exact ⟨n - 1, by omega, f01, k + 1, by omega, by omega, by rw [eN]; exact oN⟩
            · rw [List.take_of_length_le (by omega)] at oN
              simp (disch := omega) [g0, g6, g7, g8, g9, hkl, so.len, wrap64]
              exact ⟨i - 1, by omega, fr0.trans frK, j + 1, by omega, by omega, by rw [eP]; exact oN.sls⟩
        · rw [List.take_of_length_le (by omega)] at so
          simp [h0, h6, h7, hjl, hv0.len]
          exact ⟨fr0, so⟩
end Go.Am
