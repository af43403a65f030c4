/- Contracts: lists of numbers that are compared; what the laws over lists begin with. -/
import Derived.Test.YtepgjaknkjkpaaaDoorAmSort
import Derived.Test.YtepgjaknkjkpaaaDoorAmTops
import Derived.Test.YtepgjaknkjkpaaaDoorAmIrLaw11
set_option linter.unusedVariables false
set_option linter.unusedSimpArgs false
namespace Go.Am
variable {T : Tab}

theorem c135 (D : D135 T) {H : AHeap} {u v : AV} {l m : List Int} (hu : Sl encI 1 H u l) (hv : Sl encI 1 H v m) (hl : l.length < 2 ^ 62) : Calls T 135 [u, v] H fun r H' => H' = H ∧ r = .bool (decide (l = m)) := by
  refine Calls.fn D.pr D.fn ?_
  simp [ir135, hu.len, hv.len]
  refine WB.bool ?_ ?_
  · intro h
    simp at h ⊢
    intro e; subst e; simp at h
  · intro h
    simp at h ⊢
    refine W_loop (fun (i : Nat) e H' => H' = H ∧ e 0 = u ∧ e 1 = v ∧ ∃ j : Nat, i + j = l.length ∧ e 5 = .int .i64 j ∧ l.take j = m.take j) id l.length ?_ ?_
    · simp
    · rintro i e H' ⟨rfl, h0, h1, j, hj, h5, ht⟩
      simp [h0, h1, h5, hu.len]
      refine WB.bool ?_ ?_
      · intro h2
        simp at h2
        simp (disch := omega) [h0, h1, h5, hu.ia, hv.ia, hu.ld, hv.ld]
        refine WB.bool ?_ ?_
        · intro h3
          simp at h3 ⊢
          rintro rfl
          exact h3 rfl
        · intro h3
          simp at h3
          simp (disch := omega) [h0, h1, h5, wrap64]
          refine ⟨i - 1, by omega, j + 1, by omega, by omega, ?_⟩
          rw [take_nth (by omega), take_nth (by omega), ht, h3]
      · intro h2
        simp at h2 ⊢
        have e1 : l.length ≤ j := by omega
        rw [List.take_of_length_le (by omega), List.take_of_length_le (by omega)] at ht
        exact ht

theorem known_spec : sortSpec 3 [1, 1, 1] = ([2, 1, 0], 3, 0) := by
  have e : rangeI 3 = [0, 1, 2] := rfl
  simp [sortSpec, e, sortN, mergeL_cons, mergeL_nil, mergeL_nil', cmpRow, nth]

theorem c112 (D : D112 T) {H : AHeap} (hw : WF H) : Calls T 112 [] H fun v _ => v = .bool true := by
  refine Calls.fn D.pr D.fn ?_
  have o1 := hw.own_new (enc := encI) (sz := 1) (l := [1, 1, 1]) (cs := [.int .i64 1, .int .i64 1, .int .i64 1]) (cap := some 3) (Cell.len _) (by simp) (by simp) (by simp [AV.cells])
  simp [ir112, wsem0_bsl3 (a := .int .i64 1) (b := .int .i64 1) (c := .int .i64 1) rfl rfl rfl]
  refine WC.of (c113 D.d113 hw.new (n := 3) o1.sl) ?_
  rintro v H' ⟨fr, lv, rfl, ml⟩
  rw [known_spec] at ml ⊢
  have o2 := fr.wf.own_new (enc := encI) (sz := 1) (l := [2, 1, 0]) (cs := [.int .i64 2, .int .i64 1, .int .i64 0]) (cap := some 3) (Cell.len _) (by simp) (by simp) (by simp [AV.cells])
  simp [wsem0_bsl3 (a := .int .i64 2) (b := .int .i64 1) (c := .int .i64 0) rfl rfl rfl]
  refine WC.of (c135 D.d135 (ml.sl.fr fr.wf fr.wf.fr_new) o2.sl (by simp)) ?_
  rintro r H'' ⟨rfl, rfl⟩
  simp

theorem c103 (D : D103 T) {H : AHeap} (hw : WF H) {n : Int} {rv : AV} {row : List Int} (hrow : Sl encI 1 H rv row) (hr : row.length < 2 ^ 63) : Calls T 103 [.int .i64 n, rv] H fun v _ => v = .bool true := by
  refine Calls.fn D.pr D.fn ?_
  simp [ir103, hrow.len]
  refine WB.bool ?_ ?_
  · intro h
    simp
    refine WC.of (c112 D.d112 hw) ?_
    rintro v H' rfl
    simp
  · intro h
    simp at h
    simp
    refine WC.of (c113 D.d113 hw (n := n) hrow) ?_
    rintro v H1 ⟨fr, lv, rfl, ml⟩
    by_cases h0 : n < 0
    · have e : sortSpec n row = ([], 0, 1) := by unfold sortSpec; rw [if_pos h0]
      rw [e] at ml ⊢
      simp [h0, ml.sl.len]
      refine WC.of (c112 D.d112 fr.wf) ?_
      rintro v H' rfl
      simp
    · by_cases h1 : 200 < n
      · have e : sortSpec n row = ([], 0, 3) := by unfold sortSpec; rw [if_neg h0, if_pos h1]
        rw [e] at ml ⊢
        simp [h0, h1, ml.sl.len]
        refine WC.of (c112 D.d112 fr.wf) ?_
        rintro v H' rfl
        simp
      · have e : sortSpec n row = ((sortN (cmpRow row) (n.toNat + 1) (rangeI n.toNat) 0).1, (sortN (cmpRow row) (n.toNat + 1) (rangeI n.toNat) 0).2, 0) := by unfold sortSpec; rw [if_neg h0, if_neg h1]
        rw [e] at ml ⊢
        simp only at ml
        have hp := sortN_perm (cmp := cmpRow row) (n.toNat + 1) (rangeI n.toNat) 0
        generalize sortN (cmpRow row) (n.toNat + 1) (rangeI n.toNat) 0 = p at ml hp ⊢
        have hlen : p.1.length = n.toNat := by rw [hp.length_eq, rangeI_len]
        have hmem : ∀ x ∈ p.1, 0 ≤ x ∧ x < n := by
          intro x hx
          have := hp.mem_iff.1 hx
          simp [rangeI] at this
          obtain ⟨a, ha, rfl⟩ := this
          omega
        have hnd : p.1.Nodup := hp.nodup_iff.2 (by
          unfold rangeI
          exact List.Pairwise.map (fun i : Nat => (i : Int)) (fun a b h e => h (by have e : (a : Int) = (b : Int) := e; omega)) List.nodup_range)
        obtain ⟨wm, mm, km⟩ := fr.wf.newMap
        have ml1 := ml.keeps fr.wf (km (fun _ => False)) (by simp)
        simp [ml.sl.len, hlen, show ((n.toNat : Nat) : Int) = n by omega]
        have rd1 := (ml.sl.rd fr.wf).keepsD (km _)
        have nn : ((n.toNat : Nat) : Int) = n := by omega
        refine W_loop (fun (i : Nat) e K => WF K ∧ Keeps (fun g => g = H1.next) H1.newMap K ∧ e 0 = .int .i64 n ∧ e 5 = lv ∧ e 8 = .map (some H1.next) ∧ ∃ j : Nat, i + j = n.toNat ∧ e 9 = .int .i64 j ∧ Mp K H1.next ((p.1.take j).map fun y => (encI y, encB true))) id n.toNat ?_ ?_
        · exact ⟨wm, .refl, by simp, by simp, by simp, 0, by simp, by simp, by simpa using mm⟩
        · rintro i e K ⟨w, kp, e0, e5, e8, j, hj, e9, mp⟩
          have rd := rd1.keepsD (kp.mono fun g hg => by omega)
          have hlen' : (p.1.length : Int) = n := by omega
          simp [e5, e9, rd.sl.len, hlen']
          refine WB.bool ?_ ?_
          · intro hlt
            simp at hlt
            have hj' : j < p.1.length := by omega
            have ia : psem (.ia 1) [lv, .int .i64 (j : Int)] = some (elt lv 1 j) := rd.sl.ia (by omega) (by omega)
            have ld := rd.sl.ld (i := (j : Int)) (by omega) (by omega)
            have ex : nth p.1 (j : Int) = p.1[j] := by simp [nth, List.getElem?_eq_getElem hj']
            have hx := hmem (nth p.1 (j : Int)) (by rw [ex]; exact List.getElem_mem _)
            have hni : nth p.1 (j : Int) ∉ p.1.take j := by
              have h2 := hnd
              rw [← List.take_append_drop j p.1, List.drop_eq_getElem_cons hj'] at h2
              intro hm
              exact (List.nodup_append.1 h2).2.2 _ hm _ List.mem_cons_self ex
            have etake := take_nth hj'
            generalize nth p.1 (j : Int) = x at ld hx hni etake
            obtain ⟨q, hq⟩ := findK_ints x (p.1.take j) 0
            rw [if_neg hni] at hq
            have hlook := mp.look (zero := .bool false) rfl hq
            have hset := mp.mset (v := encB true) rfl hq
            obtain ⟨w2, mp2, k2⟩ := mp.set w ((p.1.take j).map (fun y => (encI y, encB true)) ++ [(encI x, encB true)])
            have rd2 := rd.keepsD (k2.mono fun g hg => by omega)
            simp only at hlook
            simp (disch := omega) [-List.map_take, e0, e5, e8, e9, ia, ld, hlook, hset, show ¬ x < 0 by omega, show ¬ n ≤ x by omega, wrap64]
            refine ⟨i - 1, by omega, w2, kp.trans k2, j + 1, by omega, by simp, ?_⟩
            rw [← List.map_take, etake, List.map_append]
            exact mp2
          · intro hlt
            simp
            refine WC.of (c112 D.d112 w) ?_
            rintro v H' rfl
            simp

theorem law103 (D : D103 T) {K : AHeap} {as : List AV} (hw : WF K) (hg : Goods K [.int .i64, .slice (.int .i64)] as) : Calls T 103 as K fun v _ => v = .bool true := by
  obtain ⟨a, r, rfl, g1, b, r2, rfl, g2, rfl⟩ := hg
  obtain ⟨n, rfl, _⟩ := g1.int
  obtain ⟨l, hl, hm, _⟩ := g2.ints
  exact c103 D hw hl (by have : maxLen = 2 ^ 63 - 1 := rfl; omega)
end Go.Am
