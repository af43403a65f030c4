/- Contracts: texts sorted by keys, and the law of sorted texts. -/
import Derived.Test.YtepgjaknkjkpaaaDoorAmTexts2
set_option linter.unusedVariables false
set_option linter.unusedSimpArgs false
namespace Go.Am
variable {T : Tab}

def sortByR (l : List (List UInt8)) (keys : List Int) : List (List UInt8) × Int :=
  if 200 < l.length ∨ 200 < keys.length then ([], 3) else if l.length ≠ keys.length then ([], 10) else ((isort (cmpK keys) (rangeI keys.length)).map (nth l), 0)

/-- Elements at places. -/
theorem places_step {α : Type} [Inhabited α] {ps : List Int} {l : List α} {j : Nat} (hj : j < ps.length) : (ps.map (nth l)).take (j + 1) = (ps.map (nth l)).take j ++ [nth l (nth ps (j : Int))] := by
  rw [← List.map_take, take_nth hj, List.map_append, List.map_take]; rfl

theorem c126 (D : D126 T) {H : AHeap} (hw : WF H) {u v : AV} {l : List (List UInt8)} {keys : List Int} (hu : Sl encS 1 H u l) (hv : Sl encI 1 H v keys) :
    Calls T 126 [u, v] H fun r H' => Fr H H' ∧ ∃ a, r = .tup [a, .int .i64 (sortByR l keys).2] ∧ Made encS 1 H.next H' a (sortByR l keys).1 := by
  refine Calls.fn D.pr D.fn ?_
  by_cases h1 : 200 < l.length
  · simp [ir126, hu.len, hv.len, sortByR, h1, show (200 : Int) < l.length by omega]
    exact ⟨.refl hw, .nil⟩
  by_cases h2 : 200 < keys.length
  · simp [ir126, hu.len, hv.len, sortByR, h1, h2, show ¬ (200 : Int) < l.length by omega, show (200 : Int) < keys.length by omega]
    exact ⟨.refl hw, .nil⟩
  by_cases h3 : l.length = keys.length
  · simp [ir126, hu.len, hv.len, sortByR, h1, h2, h3, show ¬ (200 : Int) < l.length by omega, show ¬ (200 : Int) < keys.length by omega, show (l.length : Int) = keys.length by omega]
    refine WC.of (c156 D.d156 hw hv (back := false) (by omega)) ?_
    rintro pv H1 ⟨f1, m1⟩
    rw [show ordC keys false = cmpK keys from rfl] at m1
    have hmem : ∀ s ∈ isort (cmpK keys) (rangeI keys.length), 0 ≤ s ∧ s < keys.length := fun s hs => rangeI_mem ((isort_perm (cmpK keys) (rangeI keys.length)).mem_iff.1 hs)
    have hpl := (isort_perm (cmpK keys) (rangeI keys.length)).length_eq
    rw [rangeI_len] at hpl
    generalize isort (cmpK keys) (rangeI keys.length) = ps at *
    simp
    refine W_loop (fun (i : Nat) e K => Fr H1 K ∧ e 0 = u ∧ e 6 = pv ∧ ∃ j : Nat, i + j = ps.length ∧ e 8 = .int .i64 j ∧ ∃ ov, e 7 = ov ∧ Made encS 1 H1.next K ov ((ps.map (nth l)).take j)) id ps.length ?_ ?_
    · exact ⟨.refl f1.wf, by simp, by simp, 0, by simp, by simp, .slc none 0 0 none, by simp, .nil⟩
    · rintro i e K ⟨fr, h0, h6, j, hj, h8, ov, h7, mo⟩
      have hu' := hu.fr hw (f1.trans fr)
      have mp := m1.sl.fr f1.wf fr
      simp [h6, h8, mp.len]
      refine WB.bool ?_ ?_
      · intro hlt
        simp at hlt
        have lp := mp.ld (i := (j : Int)) (by omega) (by omega)
        have et := places_step (l := l) hlt
        have hm := hmem _ (nth_mem hlt)
        have lu := hu'.ld (i := nth ps (j : Int)) (by omega) (by omega)
        obtain ⟨v', K', q1, q2, q3, q4⟩ := push_n (bytes := 16) fr.wf fr.next mo (nth l (nth ps (j : Int))) (by simp; omega) (by simp; omega)
        rw [← et] at q4
        generalize nth ps (j : Int) = x at *
        simp (disch := omega) [h0, h6, h7, h8, mp.ia, lp, hu'.ia, lu, wsem0_bsl1 (v := .str (nth l x)) rfl, q1, wrap64]
        exact ⟨i - 1, by omega, fr.step q2 q3 (fun g h => h), j + 1, by omega, by omega, by simpa using q4⟩
      · intro hlt
        simp at hlt
        rw [List.take_of_length_le (by simp; omega)] at mo
        simp [h7]
        exact ⟨f1.trans fr, mo.mono f1.next⟩
  · simp [ir126, hu.len, hv.len, sortByR, h1, h2, h3, show ¬ (200 : Int) < l.length by omega, show ¬ (200 : Int) < keys.length by omega, show ¬ (l.length : Int) = keys.length by omega]
    exact ⟨.refl hw, .nil⟩

structure KeyCI (bk n0 : Nat) (kv : AV) (keys : List Int) (X : AHeap) : Prop where
  bk : Box X bk bk [kv]
  kv : Rd (fun g => n0 ≤ g) encI 1 X kv keys

theorem c159 (D : D159 T) {bk n0 : Nat} {kv : AV} {keys : List Int} {X : AHeap} (h : KeyCI bk n0 kv keys X) {x y : Int} (hx : 0 ≤ x ∧ x < keys.length) (hy : 0 ≤ y ∧ y < keys.length) :
    Calls T 159 [.int .i64 x, .int .i64 y, .ptr (some (bk, 0))] X fun r X' => X' = X ∧ r = .int .i64 (cmpK keys x y) := by
  refine Calls.fn D.pr D.fn ?_
  have lx := h.kv.sl.ld (i := x) hx.1 hx.2
  have ly := h.kv.sl.ld (i := y) hy.1 hy.2
  simp (disch := omega) [ir159, h.bk.ld1, h.kv.sl.ia, lx, ly]
  refine WC.of (c160 D.d160) ?_
  rintro r X ⟨rfl, rfl⟩
  simp [cmpK]

theorem c128 (D : D128 T) {H : AHeap} (hw : WF H) {u v : AV} {l : List (List UInt8)} {keys : List Int} (hu : Sl encS 1 H u l) (hv : Sl encI 1 H v keys) :
    Calls T 128 [u, v] H fun r H' => Fr H H' ∧ ∃ a, r = .tup [a, .int .i64 (sortByR l keys).2] ∧ Made encS 1 H.next H' a (sortByR l keys).1 := by
  refine Calls.fn D.pr D.fn ?_
  have f0 : Fr H (H.new [v]) := hw.fr_new
  have bx : Box (H.new [v]) H.next H.next [v] := Box.new
  have hfv := hv.form
  have hu0 := hu.fr hw f0
  have hv0 := hv.fr hw f0
  simp [ir128, hfv.1, hfv.2, hu0.len]
  by_cases h1 : 200 < l.length
  · simp [sortByR, h1, show (200 : Int) < l.length by omega]
    exact ⟨f0, .nil⟩
  by_cases h2 : 200 < keys.length
  · simp [sortByR, h1, h2, show ¬ (200 : Int) < l.length by omega, bx.ld1, hv0.len, show (200 : Int) < keys.length by omega]
    exact ⟨f0, .nil⟩
  by_cases h3 : l.length = keys.length
  · simp [sortByR, h1, h2, h3, bx.ld1, hv0.len, hu0.len, show ¬ (200 : Int) < l.length by omega, show ¬ (200 : Int) < keys.length by omega, show (l.length : Int) = keys.length by omega]
    refine W_loop (fun (i : Nat) e K => Fr (H.new [v]) K ∧ e 0 = u ∧ e 3 = .ptr (some (H.next, 0)) ∧ e 25 = .int .i64 keys.length ∧ ∃ j : Nat, i + j = keys.length ∧ e 26 = .int .i64 j ∧ ∃ ov, e 6 = ov ∧ Made encI 1 (H.next + 1) K ov (rangeI j)) id keys.length ?_ ?_
    · exact ⟨.refl f0.wf, by simp, by simp, by simp, 0, by simp, by simp, .slc none 0 0 none, by simp, .nil⟩
    · rintro i e K ⟨fr, h0, h3', h25, j, hj, h26, ov, h6, mo⟩
      have hn0 : H.next + 1 ≤ K.next := fr.next
      simp [h25, h26]
      refine WB.bool ?_ ?_
      · intro hlt
        simp at hlt
        obtain ⟨v', K', q1, q2, q3, q4⟩ := push_n (bytes := 8) fr.wf hn0 mo (j : Int) (by rw [rangeI_len]; omega) (by rw [rangeI_len]; omega)
        rw [← rangeI_succ] at q4
        simp (disch := omega) [h0, h3', h6, h25, h26, wsem0_bsl1 (v := .int .i64 (j : Int)) rfl, q1, wrap64]
        exact ⟨i - 1, by omega, fr.step q2 q3 (fun g h => h), j + 1, by omega, by omega, q4⟩
      · intro hlt
        simp at hlt
        have ej : j = keys.length := by omega
        subst ej
        have bxK : Box K H.next H.next [v] := bx.keeps f0.wf fr.keeps (by show ¬ H.next + 1 ≤ H.next; omega)
        have rdK : Rd (fun g => K.next ≤ g) encI 1 K v keys := ((((hv.rd hw).keepsD (hw.keeps_new (cs := [v]))).keepsD (fr.keeps.mono fun g hg => Nat.le_trans (Nat.le_succ _) hg))).mono fun g hg => by omega
        have ci : KeyCI H.next K.next v keys K := ⟨bxK, rdK⟩
        have hc : CmpOk T encI 159 [.ptr (some (H.next, 0))] K.next (fun _ => False) (fun (_ : Unit) X => KeyCI H.next K.next v keys X) (pureC (cmpK keys)) (fun x => 0 ≤ x ∧ x < keys.length) (fun _ => 0) (2 ^ 60) := by
          refine ⟨fun s x y => by simp, fun g hg => hg.elim, ?_, ?_⟩
          · intro s X x y hx hy _ hwX _ hci
            refine (c159 D.d159 hci hx hy).imp ?_
            rintro r X' ⟨rfl, rfl⟩
            exact ⟨rfl, hwX, hci, .refl⟩
          · intro s X X' hwX hnX hci hk
            exact ⟨hci.bk.keeps hwX hk (by omega), hci.kv.keepsD hk⟩
        have hmul : keys.length * (keys.length + 1) ≤ 200 * 201 := Nat.mul_le_mul (by omega) (by omega)
        have rd : Rd (fun _ => False) encI 1 K ov (rangeI keys.length) := (mo.sl.rd fr.wf).mono fun g h => h.elim
        simp [h0, h3', h6]
        refine WC.of (c149 D.d149 hc keys.length (rangeI keys.length) ov K () (by rw [rangeI_len]; omega) (by omega) (by rw [rangeI_len]; omega) fr.wf (Nat.le_refl _) ci rd (fun x hx => rangeI_mem hx)) ?_
        rintro pv H1 ⟨w1, m1, _, k1⟩
        have f1 : Fr K H1 := ⟨w1, k1.mono fun g hg => hg.elim (fun h => h.elim) id⟩
        rw [sortN_isort (gt_keys keys) _ _ (by rw [rangeI_len]; omega)] at m1
        have hmem : ∀ s ∈ isort (cmpK keys) (rangeI keys.length), 0 ≤ s ∧ s < keys.length := fun s hs => rangeI_mem ((isort_perm (cmpK keys) (rangeI keys.length)).mem_iff.1 hs)
        have hpl := (isort_perm (cmpK keys) (rangeI keys.length)).length_eq
        rw [rangeI_len] at hpl
        generalize isort (cmpK keys) (rangeI keys.length) = ps at *
        simp [m1.sl.len]
        have fH1 : Fr H H1 := (f0.trans fr).trans f1
        refine W_loop (fun (i : Nat) e X => Fr H1 X ∧ e 0 = u ∧ e 36 = pv ∧ e 37 = .int .i64 ps.length ∧ ∃ j : Nat, i + j = ps.length ∧ e 38 = .int .i64 j ∧ ∃ ov, e 8 = ov ∧ Made encS 1 H1.next X ov ((ps.map (nth l)).take j)) id ps.length ?_ ?_
        · exact ⟨.refl w1, by simp [h0], by simp, by simp, 0, by simp, by simp, .slc none 0 0 none, by simp, .nil⟩
        · rintro i e X ⟨fX, h0, h36, h37, j, hj, h38, ov, h8, mo⟩
          have hu' := hu.fr hw (fH1.trans fX)
          have mp := m1.sl.fr w1 fX
          simp [h37, h38]
          refine WB.bool ?_ ?_
          · intro hlt
            simp at hlt
            have lp := mp.ld (i := (j : Int)) (by omega) (by omega)
            have et := places_step (l := l) hlt
            have hm := hmem _ (nth_mem hlt)
            have lu := hu'.ld (i := nth ps (j : Int)) (by omega) (by omega)
            obtain ⟨v', K', q1, q2, q3, q4⟩ := push_n (bytes := 16) fX.wf fX.next mo (nth l (nth ps (j : Int))) (by simp; omega) (by simp; omega)
            rw [← et] at q4
            generalize nth ps (j : Int) = x at *
            simp (disch := omega) [h0, h36, h37, h38, h8, mp.ia, lp, hu'.ia, lu, wsem0_bsl1 (v := .str (nth l x)) rfl, q1, wrap64]
            exact ⟨i - 1, by omega, fX.step q2 q3 (fun g h => h), j + 1, by omega, by omega, by simpa using q4⟩
          · intro hlt
            simp at hlt
            rw [List.take_of_length_le (by simp; omega)] at mo
            simp [h8]
            exact ⟨fH1.trans fX, mo.mono fH1.next⟩
  · simp [sortByR, h1, h2, h3, bx.ld1, hv0.len, hu0.len, show ¬ (200 : Int) < l.length by omega, show ¬ (200 : Int) < keys.length by omega, show ¬ (l.length : Int) = keys.length by omega]
    exact ⟨f0, .nil⟩

theorem sortTextsR_len (l : List (List UInt8)) : (sortTextsR l).1.length ≤ 200 := by
  unfold sortTextsR; split
  · simp
  · have := (isort_perm cmpB l).length_eq; simp only; omega
theorem sortByR_len (l : List (List UInt8)) (keys : List Int) : (sortByR l keys).1.length ≤ 200 := by
  unfold sortByR; split
  · simp
  · split
    · simp
    · have := (isort_perm (cmpK keys) (rangeI keys.length)).length_eq; rw [rangeI_len] at this; simp only [List.length_map]; omega

theorem c107 (D : D107 T) {H : AHeap} (hw : WF H) {u v : AV} {l : List (List UInt8)} {keys : List Int} (hu : Sl encS 1 H u l) (hv : Sl encI 1 H v keys) (hl : l.length < 2 ^ 63) (hsz : ∀ s ∈ l, s.length < 2 ^ 63) :
    Calls T 107 [u, v] H fun r _ => r = .bool true := by
  refine Calls.fn D.pr D.fn ?_
  have known : ∀ {X : AHeap}, WF X → Calls T 112 [] X fun v _ => v = .bool true := fun h => c112 D.d112 h
  simp [ir107]
  refine WC.of (c114 D.d114 hu hl) ?_
  rintro r H ⟨rfl, b1, rfl⟩
  cases b1 with
  | true =>
    simp
    refine WC.of (known hw) ?_
    rintro v H' rfl
    simp
  | false =>
    simp [hv.len]
    refine WB.bool ?_ ?_
    · intro h
      simp
      refine WC.of (known hw) ?_
      rintro v H' rfl
      simp
    · intro h
      simp
      refine WC.of (c125 D.d125 hw hu hsz) ?_
      rintro r H1 ⟨f1, b, rfl, mb⟩
      simp
      refine WC.of (c126 D.d126 f1.wf (hu.fr hw f1) (hv.fr hw f1)) ?_
      rintro r H2 ⟨f2, d, rfl, md⟩
      have f02 := f1.trans f2
      simp
      refine WC.of (c127 D.d127 f2.wf (hu.fr hw f02)) ?_
      rintro r H3 ⟨f3, a, rfl, ma⟩
      have f03 := f02.trans f3
      simp
      refine WC.of (c128 D.d128 f3.wf (hu.fr hw f03) (hv.fr hw f03)) ?_
      rintro r H4 ⟨f4, c, rfl, mc⟩
      have f24 := f3.trans f4
      have f14 := f2.trans f24
      have h1 := sortTextsR_len l
      have h2 := sortByR_len l keys
      simp
      refine WC.of (c122 D.d122 (ma.sl.fr f3.wf f4) (mb.sl.fr f1.wf f14) (by omega)) ?_
      rintro r H5 ⟨rfl, rfl⟩
      simp
      refine WC.of (c122 D.d122 mc.sl (md.sl.fr f2.wf f24) (by omega)) ?_
      rintro r H6 ⟨rfl, rfl⟩
      simp
      refine WC.of (known f4.wf) ?_
      rintro v H' rfl
      simp

theorem law107 (D : D107 T) {K : AHeap} {as : List AV} (hw : WF K) (hg : Goods K [.slice .str, .slice (.int .i64)] as) : Calls T 107 as K fun v _ => v = .bool true := by
  obtain ⟨a, r, rfl, g1, b, r2, rfl, g2, rfl⟩ := hg
  obtain ⟨l, hl, hm, hs⟩ := g1.strs
  obtain ⟨m, hl2, hm2, _⟩ := g2.ints
  have e : maxLen = 2 ^ 63 - 1 := rfl
  exact c107 D hw hl hl2 (by omega) (fun s h => by have := hs s h; omega)
end Go.Am
