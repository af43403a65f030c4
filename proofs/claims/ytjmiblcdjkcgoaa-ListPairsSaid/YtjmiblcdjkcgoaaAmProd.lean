/- Contracts: lists multiplied; the law of lists two by two, laid into each other, and multiplied. -/
import Derived.Test.YtjmiblcdjkcgoaaAmZip
set_option linter.unusedVariables false
set_option linter.unusedSimpArgs false
namespace Go.Am
variable {T : Tab}

def prodL (out : List (List (List UInt8))) (l : List (List UInt8)) : List (List (List UInt8)) := out.flatMap fun a => l.map fun s => a ++ [s]
def prodA (ls : List (List (List UInt8))) : List (List (List UInt8)) := ls.foldl prodL [[]]
def anyE (ls : List (List (List UInt8))) : Bool := ls.any fun l => l.isEmpty
def capP (C : Int) (ls : List (List (List UInt8))) : Int := ls.foldl (fun (n : Int) l => min (n * l.length) C) 1
def prodR (ls : List (List (List UInt8))) : List (List (List UInt8)) × Int :=
  if manyB ls then ([], 3) else if anyE ls then ([], 0) else if 200 < (prodA ls).length then ([], 3) else (prodA ls, 0)

theorem prodA_snoc (ls : List (List (List UInt8))) (l : List (List UInt8)) : prodA (ls ++ [l]) = prodL (prodA ls) l := by simp [prodA, List.foldl_append]
theorem capP_snoc (C : Int) (ls : List (List (List UInt8))) (l : List (List UInt8)) : capP C (ls ++ [l]) = min (capP C ls * l.length) C := by simp [capP, List.foldl_append]
theorem prodL_len (l : List (List UInt8)) : ∀ out : List (List (List UInt8)), (prodL out l).length = out.length * l.length
  | [] => by simp [prodL]
  | a :: out => by
    have := prodL_len l out
    unfold prodL at this ⊢
    rw [List.flatMap_cons, List.length_append, this, List.length_map, List.length_cons, Nat.add_mul]; omega
theorem prodL_snoc (out : List (List (List UInt8))) (a : List (List UInt8)) (l : List (List UInt8)) : prodL (out ++ [a]) l = prodL out l ++ l.map fun s => a ++ [s] := by simp [prodL]

theorem min_cap {a n C : Int} (ha : 0 ≤ a) (hn : 1 ≤ n) (hC : 1 ≤ C) : min (min a C * n) C = min (a * n) C := by
  obtain ⟨m, rfl⟩ : ∃ m, n = m + 1 := ⟨n - 1, by omega⟩
  by_cases h : a ≤ C
  · rw [show min a C = a by omega]
  · rw [show min a C = C by omega]
    have h1 : 0 ≤ C * m := Int.mul_nonneg (by omega) (by omega)
    have h2 : 0 ≤ a * m := Int.mul_nonneg ha (by omega)
    rw [Int.mul_add, Int.mul_add]; omega

theorem cap_eq {C : Int} (hC : 1 ≤ C) {ls : List (List (List UInt8))} (he : anyE ls = false) : ∀ j : Nat, j ≤ ls.length → capP C (ls.take j) = min ((prodA (ls.take j)).length : Int) C
  | 0, _ => by simp [capP, prodA]; omega
  | j + 1, h => by
    have hj : j < ls.length := by omega
    have ih := cap_eq hC he j (by omega)
    have hne : (nth ls (j : Int)).isEmpty = false := by
      unfold anyE at he
      rw [List.any_eq_false] at he
      simpa using he _ (nth_mem hj)
    have h1 : 1 ≤ ((nth ls (j : Int)).length : Int) := by
      cases hl : nth ls (j : Int) with
      | nil => rw [hl] at hne; simp at hne
      | cons a b => simp; omega
    rw [take_nth hj, capP_snoc, prodA_snoc, prodL_len, ih, min_cap (by omega) h1 hC, Int.natCast_mul]

theorem capP_rng {C : Int} (hC : 1 ≤ C) (ls : List (List (List UInt8))) : ∀ j : Nat, j ≤ ls.length → 0 ≤ capP C (ls.take j) ∧ capP C (ls.take j) ≤ C
  | 0, _ => by simp [capP]; omega
  | j + 1, h => by
    have ih := capP_rng hC ls j (by omega)
    rw [take_nth (by omega), capP_snoc]
    have : 0 ≤ capP C (ls.take j) * (nth ls (j : Int)).length := Int.mul_nonneg ih.1 (by omega)
    omega

theorem prodA_mono {ls : List (List (List UInt8))} (he : anyE ls = false) {j : Nat} : ∀ k : Nat, j + k ≤ ls.length → (prodA (ls.take j)).length ≤ (prodA (ls.take (j + k))).length
  | 0, _ => by simp
  | k + 1, h => by
    have ih := prodA_mono he (j := j) k (by omega)
    have hj : j + k < ls.length := by omega
    have hne : (nth ls ((j + k : Nat) : Int)).isEmpty = false := by
      unfold anyE at he
      rw [List.any_eq_false] at he
      simpa using he _ (nth_mem hj)
    have h1 : 1 ≤ (nth ls ((j + k : Nat) : Int)).length := by
      cases hl : nth ls ((j + k : Nat) : Int) with
      | nil => rw [hl] at hne; simp at hne
      | cons a b => simp
    rw [← Nat.add_assoc, take_nth hj, prodA_snoc, prodL_len]
    exact Nat.le_trans ih (Nat.le_mul_of_pos_right _ h1)
theorem prodA_le {ls : List (List (List UInt8))} (he : anyE ls = false) (h : (prodA ls).length ≤ 200) {j : Nat} (hj : j ≤ ls.length) : (prodA (ls.take j)).length ≤ 200 := by
  have := prodA_mono he (j := j) (ls.length - j) (by omega)
  rw [show j + (ls.length - j) = ls.length by omega, List.take_length] at this
  omega
theorem prodA_mem {ls : List (List (List UInt8))} : ∀ j : Nat, j ≤ ls.length → ∀ a ∈ prodA (ls.take j), a.length = j
  | 0, _, a, ha => by simp [prodA] at ha; simp [ha]
  | j + 1, h, a, ha => by
    rw [take_nth (by omega), prodA_snoc] at ha
    unfold prodL at ha
    rw [List.mem_flatMap] at ha
    obtain ⟨b, hb, hs⟩ := ha
    rw [List.mem_map] at hs
    obtain ⟨s, _, rfl⟩ := hs
    simp [prodA_mem j (by omega) b hb]

/-! ### A list of lists that grows -/
def Outs (n : Nat) (K : AHeap) (v : AV) (ls : List (List (List UInt8))) : Prop :=
  ∃ (vs : List AV) (f : Option Nat), Own encA 1 K v vs f ∧ (∀ g, f = some g → n ≤ g) ∧ vs.length = ls.length ∧ ∀ i : Nat, i < ls.length → Rd (fun g => f = some g) encS 1 K (encA (nth vs (i : Int))) (nth ls (i : Int))

theorem Outs.nil {n z : Nat} {K : AHeap} : Outs n K (.slc none z 0 none) [] := ⟨[], none, Own.nil (by simp), by simp, rfl, fun i hi => by simp at hi⟩
theorem Outs.sls {n : Nat} {K : AHeap} {v : AV} {ls : List (List (List UInt8))} (h : Outs n K v ls) : Sls K v ls := by
  obtain ⟨vs, f, h1, _, h3, h4⟩ := h
  exact ⟨vs, h1.1, h3, fun i hi => (h4 i hi).1⟩
theorem Rd.more {α : Type} {enc : α → AV} {sz : Nat} {D : Nat → Prop} {H : AHeap} (hw : WF H) {v : AV} {l : List α} (h : Rd D enc sz H v l) : Rd (fun g => D g ∨ H.next ≤ g) enc sz H v l :=
  ⟨h.1, fun b off sv n c f cs e hr hd => by
    rcases hd with hd | hd
    · exact h.2 b off sv n c f cs e hr hd
    · have := hw.row_fam hr; omega⟩
theorem Outs.fr {n : Nat} {K K' : AHeap} {v : AV} {ls : List (List (List UInt8))} (h : Outs n K v ls) (hw : WF K) (k : Fr K K') : Outs n K' v ls := by
  obtain ⟨vs, f, h1, h2, h3, h4⟩ := h
  refine ⟨vs, f, h1.fr hw k, h2, h3, fun i hi => (h4 i hi).keeps hw (k.keeps.mono fun g hg => .inr hg)⟩

theorem encA_cell {v : AV} (h : v.cell = true) : encA v = v := by unfold encA; rw [if_pos h]
theorem nth_snoc {α : Type} [Inhabited α] {l : List α} {a : α} {i : Nat} : nth (l ++ [a]) (i : Int) = if i < l.length then nth l (i : Int) else if i = l.length then a else default := by
  simp only [nth, List.getD, Int.toNat_natCast]
  by_cases h : i < l.length
  · rw [if_pos h, List.getElem?_append_left h]
  · rw [if_neg h, List.getElem?_append_right (by omega)]
    by_cases h2 : i = l.length
    · subst h2; simp
    · rw [if_neg h2, List.getElem?_eq_none (by simp; omega)]; rfl

/-- One list more, that was made since. -/
theorem Outs.push {K0 K1 K : AHeap} (f0 : Fr K0 K1) (f1 : Fr K1 K) {v a : AV} {ls : List (List (List UInt8))} {m : List (List UInt8)} (h : Outs K0.next K1 v ls) (ha : Made encS 1 K1.next K a m) (hb : (ls.length + 1) * 24 ≤ 2 ^ 46) :
    ∃ v' K', wsem0 (.app 1 24) [v, .slc (some (K.next, 0)) 1 1 (some 1)] (K.new [a]) = some (v', K') ∧ Fr K0 K' ∧ Outs K0.next K' v' (ls ++ [m]) := by
  obtain ⟨vs, f, h1, h2, h3, h4⟩ := h
  have hf1 : ∀ g, f = some g → g < K1.next := by
    intro g hg
    subst hg
    exact h1.2.lt f0.wf
  have h1 := h1.fr f0.wf f1
  have h4 := fun (i : Nat) (hi : i < ls.length) => (h4 i hi).keeps f0.wf (f1.keeps.mono fun g hg => .inr hg)
  have hac : encA a = a := encA_cell ha.sl.form.1
  obtain ⟨v', K', f', q1, q2, q3, q4, q5⟩ := push1 (bytes := 24) f1.wf h1 a (by rw [h3]; exact hb) (by omega)
  rw [hac] at q1
  have up : ∀ {x : AV} {l : List (List UInt8)}, Rd (fun g => f = some g) encS 1 K x l → Rd (fun g => f' = some g) encS 1 K' x l := by
    intro x l hr
    have := (hr.more f1.wf).keepsD (q4.mono fun g hg => .inl hg)
    exact this.mono fun g hg => q5 g hg
  refine ⟨v', K', q1, (f0.trans f1).step q2 q4 h2, vs ++ [a], f', q3, ?_, by simp [h3], ?_⟩
  · intro g hg
    rcases q5 g hg with hg | hg
    · exact h2 g hg
    · exact Nat.le_trans (f0.trans f1).next hg
  · intro i hi
    rw [nth_snoc, nth_snoc, h3]
    by_cases hl : i < ls.length
    · rw [if_pos hl, if_pos hl]; exact up (h4 i hl)
    · have : i = ls.length := by simp at hi; omega
      rw [if_neg hl, if_pos this, if_neg hl, if_pos this, hac]
      exact up (ha.rd hf1)

theorem prodL_take {outs : List (List (List UInt8))} {l : List (List UInt8)} {k : Nat} (h : k < outs.length) : prodL (outs.take (k + 1)) l = prodL (outs.take k) l ++ l.map fun s => nth outs (k : Int) ++ [s] := by
  rw [take_nth h, prodL_snoc]
theorem map_take {l : List (List UInt8)} {a : List (List UInt8)} {i : Nat} (h : i < l.length) : ((l.map fun s => a ++ [s]).take (i + 1)) = (l.map fun s => a ++ [s]).take i ++ [a ++ [nth l (i : Int)]] := by
  rw [← List.map_take, take_nth h, List.map_append, List.map_take]; rfl

theorem Sls.getF {K0 : AHeap} (hw : WF K0) {v : AV} {ls : List (List (List UInt8))} (h : Sls K0 v ls) {i : Nat} (hi : i < ls.length) : ∃ u, Sl encS 1 K0 u (nth ls (i : Int)) ∧ ∀ {K : AHeap}, Fr K0 K → rsem (.ld 1 false) [elt v 1 (i : Int)] K = some u := by
  obtain ⟨vs, q1, q2, q3⟩ := h
  exact ⟨_, q3 i hi, fun f => (q1.fr hw f).ld (by omega) (by omega)⟩

theorem sls_nil {H : AHeap} {z : Nat} : Sls H (.slc none z 0 none) [] := ⟨[], (Own.nil (enc := encA) (sz := 1) (H := H) (z := z) (c := none) (by simp)).sl, rfl, fun i hi => by simp at hi⟩
theorem sls_one {H : AHeap} (hw : WF H) : Sls (H.new [.slc none 0 0 none]) (.slc (some (H.next, 0)) 1 1 (some 1)) [[]] := by
  have o := hw.own_new (enc := encA) (sz := 1) (l := [.slc none 0 0 none]) (cs := [.slc none 0 0 none]) (cap := some 1) (Cell.len _) (by simp) (by simp) (by simp [encA, AV.cell, AV.cells])
  refine ⟨[.slc none 0 0 none], o.sl, rfl, fun i hi => ?_⟩
  obtain rfl : i = 0 := by simp at hi; omega
  have e : encA (.slc none 0 0 none) = .slc none 0 0 none := encA_cell rfl
  simp only [nth, List.getD, Int.toNat_natCast, List.getElem?_cons_zero, Option.getD_some, e]
  exact (Own.nil (enc := encS) (sz := 1) (z := 0) (c := none) (by simp)).sl

theorem c142 (D : D142 T) {H : AHeap} (hw : WF H) {v : AV} {ls : List (List (List UInt8))} (hv : Sls H v ls) : Calls T 142 [v] H fun r H' => Fr H H' ∧ ∃ a, r = .tup [a, .int .i64 (prodR ls).2] ∧ Sls H' a (prodR ls).1 := by
  refine Calls.fn D.pr D.fn ?_
  simp [ir142]
  refine WC.of (c164 D.d164 hv) ?_
  rintro r H ⟨rfl, rfl⟩
  cases hm : manyB ls with
  | true =>
    have eR : prodR ls = ([], 3) := by unfold prodR; rw [if_pos hm]
    rw [eR]
    simp
    exact ⟨.refl hw, sls_nil⟩
  | false =>
  obtain ⟨hl, hla⟩ := many_false hm
  have eR : prodR ls = if anyE ls then ([], 0) else if 200 < (prodA ls).length then ([], 3) else (prodA ls, 0) := by unfold prodR; rw [if_neg (by simp [hm])]
  rw [eR]
  have hcr := capP_rng (C := 201) (by omega) ls
  have hce := fun he : anyE ls = false => cap_eq (C := 201) (by omega) he ls.length (Nat.le_refl _)
  rw [List.take_length] at hce
  simp [hv.len]
  -- how many there will be
  refine W_loop (fun (i : Nat) e K => K = H ∧ e 0 = v ∧ e 23 = v ∧ e 24 = .int .i64 ls.length ∧ ∃ j : Nat, i + j = ls.length ∧ e 25 = .int .i64 j ∧ e 5 = .int .i64 (capP 201 (ls.take j))) id ls.length ?_ ?_
  · exact ⟨rfl, by simp, by simp, by simp, 0, by simp, by simp, by simp [capP]⟩
  · rintro i e H ⟨rfl, h0, h23, h24, j, hj, h25, h5⟩
    by_cases hjl : j < ls.length
    · obtain ⟨u, l1, su⟩ := hv.get hjl
      have et := capP_snoc 201 (ls.take j) (nth ls (j : Int))
      rw [← take_nth hjl] at et
      have r1 := hcr j (by omega)
      have hlm := hla _ (nth_mem hjl)
      generalize nth ls (j : Int) = m at *
      generalize capP 201 (ls.take j) = q at *
      have p0 : 0 ≤ q * (m.length : Int) := Int.mul_nonneg r1.1 (by omega)
      have p1 : q * (m.length : Int) ≤ 201 * 200 := Int.mul_le_mul r1.2 (by omega) (by omega) (by omega)
      obtain ⟨p, hp⟩ : ∃ p, q * (m.length : Int) = p := ⟨_, rfl⟩
      rw [hp] at p0 p1 et
      simp (disch := omega) [h0, h5, h23, h24, h25, hjl, hv.len, hv.ia, l1, su.len, hp, wrap64]
      exact ⟨i - 1, by omega, j + 1, by omega, by omega, by rw [et]⟩
    · rw [List.take_of_length_le (by omega)] at h5
      clear hj
      simp [h0, h5, h23, h24, h25, hjl, hv.len]
      obtain ⟨b, hb⟩ : ∃ b, anyE ls = b := ⟨_, rfl⟩
      rw [hb]
      -- whether one is empty
      refine W_loop (fun (i : Nat) e K => K = H ∧ e 0 = v ∧ e 5 = .int .i64 (capP 201 ls) ∧ e 35 = v ∧ e 36 = .int .i64 ls.length ∧ ∃ j : Nat, i + j = ls.length ∧ e 37 = .int .i64 j ∧ anyE (ls.drop j) = b) id ls.length ?_ ?_
      · exact ⟨rfl, by simp [h0], by simp [h5], by simp, by simp, 0, by simp, by simp, by simpa using hb⟩
      · rintro i e H ⟨rfl, h0, h5, h35, h36, j, hj, h37, he⟩
        by_cases hjl : j < ls.length
        · obtain ⟨u, l1, su⟩ := hv.get hjl
          rw [drop_nthG hjl] at he
          unfold anyE at he
          rw [List.any_cons] at he
          generalize nth ls (j : Int) = m at *
          by_cases hm0 : m = []
          · subst hm0
            have : b = true := by rw [← he]; simp
            subst this
            simp (disch := omega) [h0, h5, h35, h36, h37, hjl, hv.ia, l1, su.len]
            exact ⟨.refl hw, sls_nil⟩
          · have hml : ¬ m.length = 0 := by intro h; exact hm0 (List.eq_nil_of_length_eq_zero h)
            simp (disch := omega) [h0, h5, h35, h36, h37, hjl, hv.ia, l1, su.len, hm0, hml, wrap64]
            refine ⟨i - 1, by omega, j + 1, by omega, by omega, ?_⟩
            unfold anyE
            cases m with
            | nil => exact absurd rfl hm0
            | cons x y => simpa using he
        · rw [List.drop_eq_nil_of_le (by omega)] at he
          have hb2 : b = false := by rw [← he]; rfl
          subst hb2
          have hcap := hce hb
          clear he hj
          by_cases hbig : 200 < (prodA ls).length
          · rw [if_neg (by simp), if_pos hbig]
            simp (disch := omega) [h0, h5, h35, h36, h37, hjl, show (200 : Int) < capP 201 ls by omega]
            exact ⟨.refl hw, sls_nil⟩
          rw [if_neg (by simp), if_neg hbig]
          have hple := fun {j : Nat} => prodA_le hb (j := j) (by omega)
          have hb1 : wsem0 (.bsl 1 1 [.slc none 0 0 none] [(0, 1)]) [.slc none 0 0 none] H = some (.slc (some (H.next, 0)) 1 1 (some 1), H.new [.slc none 0 0 none]) := wsem0_bsl1 rfl
          simp (disch := omega) [h0, h5, h35, h36, h37, hjl, hv.len, hb1, show ¬ (200 : Int) < capP 201 ls by omega]
          have fn : Fr H (H.new [.slc none 0 0 none]) := hw.fr_new
          refine W_loop (fun (i : Nat) e K => Fr H K ∧ e 48 = v ∧ e 49 = .int .i64 ls.length ∧ ∃ j : Nat, i + j = ls.length ∧ e 50 = .int .i64 j ∧ ∃ ov, e 10 = ov ∧ Sls K ov (prodA (ls.take j))) id ls.length ?_ ?_
          · exact ⟨fn, by simp, by simp, 0, by simp, by simp, _, by simp; rfl, by simpa [prodA] using sls_one hw⟩
          · rintro i e K0 ⟨fr0, h48, h49, j, hj, h50, ov, h10, so⟩
            have hv0 := hv.fr hw fr0
            by_cases hjl : j < ls.length
            · obtain ⟨u, l1, su⟩ := hv0.get hjl
              have eP : prodA (ls.take (j + 1)) = prodL (prodA (ls.take j)) (nth ls (j : Int)) := by rw [take_nth hjl, prodA_snoc]
              have hlm := hla _ (nth_mem hjl)
              have hol := hple (j := j) (by omega)
              have hom := prodA_mem (ls := ls) j (by omega)
              generalize nth ls (j : Int) = m at *
              generalize prodA (ls.take j) = outs at *
              simp (disch := omega) [h48, h49, h50, h10, hjl, hv0.ia, l1, so.len]
              refine W_loop (fun (n : Nat) e K => Fr K0 K ∧ e 48 = v ∧ e 49 = .int .i64 ls.length ∧ e 50 = .int .i64 j ∧ e 12 = u ∧ e 54 = ov ∧ e 55 = .int .i64 outs.length ∧ ∃ k : Nat, n + k = outs.length ∧ e 56 = .int .i64 k ∧ ∃ nv, e 13 = nv ∧ Outs K0.next K nv (prodL (outs.take k) m)) id outs.length ?_ ?_
              · exact ⟨.refl fr0.wf, by simp [h48], by simp [h49], by simp [h50], by simp, by simp, by simp, 0, by simp, by simp, _, by simp; rfl, by simpa [prodL] using Outs.nil⟩
              · rintro n e K ⟨frK, g48, g49, g50, g12, g54, g55, k, hk, g56, nv, g13, oN⟩
                by_cases hkl : k < outs.length
                · have so' := so.fr fr0.wf frK
                  obtain ⟨av, sa, l2f⟩ := so.getF fr0.wf hkl
                  have l2 := l2f frK
                  have eN := prodL_take (l := m) hkl
                  have hal := hom _ (nth_mem hkl)
                  have su' := su.fr fr0.wf frK
                  generalize nth outs (k : Int) = a at *
                  have hPl : (prodL (outs.take k) m).length ≤ 200 * 200 := by
                    rw [prodL_len, List.length_take]
                    exact Nat.mul_le_mul (by omega) (by omega)
                  generalize prodL (outs.take k) m = nx at *
                  simp (disch := omega) [g48, g49, g50, g12, g54, g55, g56, g13, hkl, so'.ia, l2, su'.len]
                  refine W_loop (fun (n : Nat) e K' => e 48 = v ∧ e 49 = .int .i64 ls.length ∧ e 50 = .int .i64 j ∧ e 12 = u ∧ e 54 = ov ∧ e 55 = .int .i64 outs.length ∧ e 56 = .int .i64 k ∧ e 15 = av ∧ e 60 = u ∧ e 61 = .int .i64 m.length ∧ ∃ q : Nat, n + q = m.length ∧ e 62 = .int .i64 q ∧ ∃ nv, e 13 = nv ∧ Fr K0 K' ∧ Outs K0.next K' nv (nx ++ (m.map fun s => a ++ [s]).take q)) id m.length ?_ ?_
                  · exact ⟨by simp [g48], by simp [g49], by simp [g50], by simp [g12], by simp [g54], by simp [g55], by simp [g56], by simp, by simp, by simp, 0, by simp, by simp, nv, by simp [g13], frK, by simpa using oN⟩
                  · rintro p e K1 ⟨g48, g49, g50, g12, g54, g55, g56, g15, g60, g61, q, hq, g62, nv, g13, f01, oN⟩
                    by_cases hqm : q < m.length
                    · have su1 := su.fr fr0.wf f01
                      have sa1 := sa.fr fr0.wf f01
                      have lv := su1.ld (i := (q : Int)) (by omega) (by omega)
                      have eM := map_take (a := a) hqm
                      generalize nth m (q : Int) = s at *
                      simp (disch := omega) [g12, g13, g15, g48, g49, g50, g54, g55, g56, g60, g61, g62, hqm, su1.ia, lv]
                      refine WC.of (c153 D.d153 f01.wf sa1 (by omega)) ?_
                      rintro r K2 ⟨f2, md⟩
                      obtain ⟨a', K3, p1, f3, md3⟩ := push1_made (bytes := 16) f2 md s (by omega) (by omega)
                      have hb2 : wsem0 (.bsl 1 1 [.str []] [(0, 1)]) [.str s] K2 = some (.slc (some (K2.next, 0)) 1 1 (some 1), K2.new [.str s]) := wsem0_bsl1 rfl
                      have p1 : wsem0 (.app 1 16) [r, .slc (some (K2.next, 0)) 1 1 (some 1)] (K2.new [.str s]) = some (a', K3) := p1
                      have hb3 : wsem0 (.bsl 1 1 [.slc none 0 0 none] [(0, 1)]) [a'] K3 = some (.slc (some (K3.next, 0)) 1 1 (some 1), K3.new [a']) := wsem0_bsl1 md3.sl.form.1
                      have hln : (nx ++ (m.map fun s => a ++ [s]).take q).length ≤ 200 * 200 + 200 := by
                        rw [List.length_append, List.length_take, List.length_map]; omega
                      obtain ⟨v', K4, r1, f4, oN4⟩ := oN.push f01 f3 md3 (by omega)
                      rw [List.append_assoc, ← eM] at oN4
                      simp
                      simp (disch := omega) [g12, g13, g15, g48, g49, g50, g54, g55, g56, g60, g61, g62, hb2, p1, hb3, r1, wrap64]
                      exact ⟨p - 1, by omega, q + 1, by omega, by omega, f4, oN4⟩
                    · rw [List.take_of_length_le (by simp; omega)] at oN
                      simp (disch := omega) [g12, g13, g15, g48, g49, g50, g54, g55, g56, g60, g61, g62, hqm, wrap64]
                      exact ⟨n - 1, by omega, f01, k + 1, by omega, by omega, by rw [eN]; exact oN⟩
                · rw [List.take_of_length_le (by omega)] at oN
                  simp (disch := omega) [g12, g13, g48, g49, g50, g54, g55, g56, hkl, wrap64]
                  exact ⟨i - 1, by omega, fr0.trans frK, j + 1, by omega, by omega, by rw [eP]; exact oN.sls⟩
            · rw [List.take_of_length_le (by omega)] at so
              simp [h48, h49, h50, h10, hjl]
              exact ⟨fr0, so⟩
end Go.Am
