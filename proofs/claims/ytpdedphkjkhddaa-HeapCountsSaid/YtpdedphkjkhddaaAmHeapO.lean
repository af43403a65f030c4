/- The plain law of the heap: the ends, next, settle. -/
import Derived.Test.YtpdedphkjkhddaaAmHeapN
set_option linter.unusedVariables false
set_option linter.unusedSimpArgs false
namespace Go.Am

theorem strong_clr (a b : Int) (x : Fld) : strongTo b (clr a x) = strongTo b x := by
  unfold clr
  split
  · rename_i h; simp [strongTo, h.2.1]
  · rfl
theorem cnt_clr (a b : Int) (fs : List Fld) : cnt (fs.map (clr a)) b = cnt fs b := by
  unfold cnt
  rw [List.countP_map]
  congr 1
  funext x
  exact strong_clr a b x
theorem refs_clr (a b : Int) (cs : List Cel) : refs (cs.map (clrC a)) b = refs cs b := by
  unfold refs
  rw [List.map_map]
  congr 1
  apply List.map_congr_left
  intro c _
  exact cnt_clr a b c.fs
theorem nth_clr {cs : List Cel} {i a : Int} (h0 : 0 ≤ i) (h1 : i < cs.length) : nth (cs.map (clrC a)) i = clrC a (nth cs i) := by
  have hi : i.toNat < cs.length := by omega
  simp [nth, hi]

theorem both_weak {A : Int} {S : Hp} {Q : Rp} (h : Both A S Q) (a : Int) : Both A (weakR S a) (weakQ Q a) ∧ phi (weakQ Q a) = phi Q := by
  refine ⟨⟨⟨by simp [weakR, weakQ, h.sim.len], h.sim.notes, fun i i0 i1 => ?_⟩, ⟨⟨by simpa [weakQ] using h.good.shp.len, ?_⟩, ?_, by simpa [weakQ] using h.good.notes, ?_, ?_⟩, ⟨h.ro.keys, by simpa [weakR] using h.ro.in_⟩⟩, ?_⟩
  · have i1' : i < Q.cells.length := by simpa [weakQ] using i1
    obtain ⟨b1, b2⟩ := h.sim.at_ i i0 i1'
    simp only [weakR, weakQ]
    rw [nth_clr i0 (by rw [h.sim.len]; exact i1'), nth_clr i0 i1', refs_clr, b1]
    exact ⟨rfl, b2⟩
  · intro c hc
    obtain ⟨d, hd, rfl⟩ := List.mem_map.1 hc
    simpa [clrC] using h.good.shp.fl d hd
  · intro c hc x hx hi
    obtain ⟨d, hd, rfl⟩ := List.mem_map.1 hc
    obtain ⟨y, hy, rfl⟩ := List.mem_map.1 hx
    simp only [weakQ, List.length_map]
    unfold clr at hi ⊢
    split at hi
    · cases hi
    · rename_i hn; rw [if_neg hn]; exact h.good.to d hd y hy hi
  · intro c hc
    obtain ⟨d, hd, rfl⟩ := List.mem_map.1 hc
    exact h.good.n d hd
  · intro i i0 i1 he
    have i1' : i < Q.cells.length := by simpa [weakQ] using i1
    simp only [weakQ] at he ⊢
    rw [nth_clr i0 i1'] at he ⊢
    rw [refs_clr]
    exact h.good.en i i0 i1' he
  · unfold phi wsum weakQ
    simp only [List.map_map]
    congr 1

theorem both_empties {A : Int} {S : Hp} {Q : Rp} (h : Both A S Q) {a : Int} (h0 : 0 ≤ a) (h1 : a < Q.cells.length) :
    ∀ n : Nat, n ≤ (nth Q.cells a).fs.length → Both A (emptiesR S a n) (emptiesQ Q a n) ∧ phi (emptiesQ Q a n) ≤ phi Q + n
  | 0, _ => ⟨h, by simp [emptiesQ]⟩
  | n + 1, hn => by
    obtain ⟨g, gp⟩ := both_empties h h0 h1 n (by omega)
    obtain ⟨l1, l2⟩ := emptiesQ_lens (S := Q) (a := a) h0 h1 n
    obtain ⟨e, ep⟩ := both_empty g (i := a) (f := (n : Int)) h0 (by rw [l1]; exact h1) (by omega) (by rw [l2]; omega)
    exact ⟨e, by show phi (emptyQ _ _ _) ≤ _; omega⟩

/-- A cell ends. -/
theorem both_end {A : Int} {S : Hp} {Q : Rp} (h : Both A S Q) {a : Int} (h0 : 0 ≤ a) (h1 : a < Q.cells.length) (he : (nth Q.cells a).e = false) (hn : (nth Q.cells a).n = 0 ∧ refs Q.cells a = 0) (hA : A ≤ 2 ^ 40) (hp : phi Q < 2 ^ 38) :
    Both A (endR S a) (endQ Q a) ∧ phi (endQ Q a) + 1 ≤ phi Q ∧
    (∀ j, j < (nth S.cells a).fs.length → EPre (emptiesR (weakR (setC S a { nth S.cells a with e := true }) a) a j) a j) ∧
    (∀ j, j < (nth Q.cells a).fs.length → QBnd (emptiesQ (weakQ (qset Q a { nth Q.cells a with e := true }) a) a j) ∧ QTo (emptiesQ (weakQ (qset Q a { nth Q.cells a with e := true }) a) a j) a j) := by
  obtain ⟨b1, b2⟩ := h.sim.at_ a h0 h1
  have gn := h.good.n _ (nth_mem h0 h1)
  have hB := both_cell h h0 h1 (c := { nth Q.cells a with e := true }) rfl gn (fun _ => hn) (rs := S.roots) (fun j => by
    by_cases e : j = a
    · rw [if_pos e, e, b2]
    · rw [if_neg e]) h.ro.keys h.ro.in_
  have hset : setC S a { nth S.cells a with e := true } = { S with cells := S.cells.set a.toNat { { nth Q.cells a with e := true } with n := ({ nth Q.cells a with e := true } : Cel).n + refs Q.cells a }, roots := S.roots } := by
    unfold setC; rw [b1]
  rw [← hset] at hB
  have hph := phi_set h0 h1 { nth Q.cells a with e := true }
  have hl : life (nth Q.cells a) = 9 + (if (nth Q.cells a).t then 0 else 2) := by simp [life, he]
  have hl2 : life { nth Q.cells a with e := true } = (if (nth Q.cells a).t then 0 else 2) := by simp [life]
  obtain ⟨Q1, hQ1⟩ : ∃ Q1, qset Q a { nth Q.cells a with e := true } = Q1 := ⟨_, rfl⟩
  obtain ⟨S1, hS1⟩ : ∃ S1, setC S a { nth S.cells a with e := true } = S1 := ⟨_, rfl⟩
  have lq : Q1.cells.length = Q.cells.length ∧ (nth Q1.cells a).fs = (nth Q.cells a).fs := by
    rw [← hQ1, qset_nth h0 h1 h0, if_pos rfl]; simp
  unfold endR endQ
  simp only
  rw [hQ1, hS1] at hB
  rw [hQ1] at hph
  rw [hQ1, hS1]
  obtain ⟨hW, hWp⟩ := both_weak hB a
  have h1' : a < Q1.cells.length := by rw [lq.1]; exact h1
  have lw := weakQ_lens (S := Q1) (a := a) h0 h1'
  rw [lq.1, lq.2] at lw
  obtain ⟨Q2, hQ2⟩ : ∃ Q2, weakQ Q1 a = Q2 := ⟨_, rfl⟩
  obtain ⟨S2, hS2⟩ : ∃ S2, weakR S1 a = S2 := ⟨_, rfl⟩
  rw [hQ2] at hWp lw
  rw [hQ2, hS2] at hW
  rw [hQ2, hS2]
  have h2' : a < Q2.cells.length := by rw [lw.1]; exact h1
  have hfS : (nth S2.cells a).fs.length = (nth Q.cells a).fs.length := by rw [(hW.sim.cell h0 h2').1, lw.2]
  have hfl := h.good.shp.fl _ (nth_mem h0 h1)
  have all := both_empties hW h0 h2'
  have step : ∀ j : Nat, j < (nth Q.cells a).fs.length → EPre (emptiesR S2 a j) a j ∧ QBnd (emptiesQ Q2 a j) ∧ QTo (emptiesQ Q2 a j) a j := by
    intro j hj
    obtain ⟨g, gp⟩ := all j (by rw [lw.2]; omega)
    obtain ⟨l1, l2⟩ := emptiesQ_lens (S := Q2) (a := a) h0 h2' j
    have a1 : a < (emptiesQ Q2 a j).cells.length := by rw [l1]; exact h2'
    have f1 : (j : Int) < (nth (emptiesQ Q2 a j).cells a).fs.length := by rw [l2, lw.2]; omega
    have hp' : phi (emptiesQ Q2 a j) < 2 ^ 38 := by omega
    have qto := g.good.toIn h0 a1 (f := (j : Int)) (by omega) f1
    refine ⟨⟨by rw [g.sim.len]; exact a1, by rw [(g.sim.cell h0 a1).1]; omega, ?_, g.sim.bnd g.good hA hp'⟩, g.good.qbnd hA hp', qto⟩
    unfold ToIn
    rw [(g.sim.cell h0 a1).1, g.sim.len]
    exact qto
  have last := all (nth Q.cells a).fs.length (by rw [lw.2]; exact Nat.le_refl _)
  refine ⟨by rw [hfS]; exact last.1, by omega, fun j hj => ?_, fun j hj => (step j hj).2⟩
  rw [(h.sim.cell h0 h1).1] at hj
  exact (step j hj).1

theorem both_next {A : Int} (hA : A ≤ 2 ^ 40) : ∀ (n : Nat) {S : Hp} {Q : Rp}, Both A S Q → phi Q < n → phi Q < 2 ^ 38 →
    SafeN n S ∧ SafeQ n Q ∧ (nextR n S).2 = (nextQ n Q).2 ∧ Both A (nextR n S).1 (nextQ n Q).1 ∧ phi (nextQ n Q).1 ≤ phi Q ∧
    ((nextQ n Q).2.2 = true → phi (nextQ n Q).1 + 3 ≤ phi Q ∧ 0 ≤ (nextQ n Q).2.1 ∧ (nextQ n Q).2.1 < (nextQ n Q).1.cells.length ∧ (nth (nextQ n Q).1.cells (nextQ n Q).2.1).e = false ∧ (nth (nextQ n Q).1.cells (nextQ n Q).2.1).n ≠ 0)
  | 0, S, Q, _, h, _ => absurd h (by omega)
  | n + 1, S, Q, h, hn, hp => by
    have hSn := h.sim.notes
    cases hq : Q.notes with
    | nil =>
      rw [hq] at hSn
      simp only [SafeN, SafeQ, nextR, nextQ, hq, hSn]
      exact ⟨trivial, trivial, trivial, h, Nat.le_refl _, fun e => by cases e⟩
    | cons a r =>
      rw [hq] at hSn
      obtain ⟨a0, a1⟩ := h.good.notes a (by rw [hq]; exact List.mem_cons_self)
      obtain ⟨b1, b2⟩ := h.sim.at_ a a0 a1
      have hcl := h.sim.cell a0 a1
      have gn := h.good.n _ (nth_mem a0 a1)
      have aS : a < S.cells.length := by rw [h.sim.len]; exact a1
      have hct := h.good.counted a0 a1
      have bndS := h.sim.bnd h.good hA hp
      have fits : Fits S a := ⟨a0, aS, by rw [h.sim.len]; have := h.good.shp.len; omega, fun c hc => by
        obtain ⟨i, hi, e⟩ := mem_nth hc
        rw [h.sim.len] at hi
        have := (h.sim.cell (i := (i : Int)) (by omega) (by omega)).1
        rw [← e, this]
        have := h.good.shp.fl _ (nth_mem (l := Q.cells) (i := (i : Int)) (by omega) (by omega))
        omega, bndS, by
          rw [b2]
          have : 0 ≤ age (nth Q.cells a) := by unfold age; split <;> omega
          omega⟩
      have fitq : FitsQ Q a := ⟨a0, a1, h.good.qbnd hA hp⟩
      obtain ⟨ht, htp⟩ := both_take h hq
      have cond : (0 < (nth S.cells a).n ∨ (nth S.cells a).e = true) ↔ ((nth Q.cells a).e = true ∨ 0 < countedR Q a) := by
        rw [hcl.2.2.2.1, hcl.2.2.2.2, hct]; exact Or.comm
      have cond2 : ((nth S.cells a).w = true ∧ (nth S.cells a).t = false) ↔ ((nth Q.cells a).w = true ∧ (nth Q.cells a).t = false) := by rw [hcl.2.1, hcl.2.2.1]
      simp only [SafeN, SafeQ, nextR, nextQ, hq, hSn]
      by_cases c1 : (nth Q.cells a).e = true ∨ 0 < countedR Q a
      · have c1' := cond.2 c1
        simp only [if_pos c1, if_pos c1']
        obtain ⟨i1, i2, i3, i4, i5, i6⟩ := both_next hA n ht (by omega) (by omega)
        exact ⟨⟨fits, i1⟩, ⟨fitq, i2⟩, i3, i4, by omega, fun e => by obtain ⟨j1, j2⟩ := i6 e; exact ⟨by omega, j2⟩⟩
      · have c1' := mt cond.1 c1
        simp only [if_neg c1, if_neg c1']
        have he : (nth Q.cells a).e = false := by
          cases e : (nth Q.cells a).e with
          | false => rfl
          | true => exact absurd (.inl e) c1
        have hz : (nth Q.cells a).n = 0 ∧ refs Q.cells a = 0 := by
          have : ¬ 0 < countedR Q a := fun e => c1 (.inr e)
          rw [hct] at this
          omega
        by_cases c2 : (nth Q.cells a).w = true ∧ (nth Q.cells a).t = false
        · have c2' := cond2.2 c2
          simp only [if_pos c2, if_pos c2']
          obtain ⟨k1, k2⟩ := h.ro.set a0 aS (v := rget S.roots a + 1) (by rw [b2]; omega)
          have hl : life (nth Q.cells a) = 11 := by simp [life, he, c2.2]
          obtain ⟨c, hc⟩ : ∃ c : Cel, c = { nth Q.cells a with t := true, n := (nth Q.cells a).n + 1 } := ⟨_, rfl⟩
          have hlc : life c = 9 := by rw [hc]; simp [life, he]
          have hcn : c.n = (nth Q.cells a).n + 1 := by rw [hc]
          have hce : c.e = false := by rw [hc]; exact he
          have hage : age c = 0 := by rw [hc]; simp [age]
          have hage2 : age (nth Q.cells a) = 1 := by simp [age, c2.2]
          have hB := both_cell ht a0 a1 (c := c) (by rw [hc]) (by rw [hcn, hage]; omega) (fun e => by rw [hce] at e; cases e) (rs := rset S.roots a (rget S.roots a + 1)) (fun j => by rw [rget_rset, b2, hcn]) k1 k2
          have hph := phi_set (Q := { Q with notes := r }) a0 a1 c
          rw [show (nth ({ Q with notes := r } : Rp).cells a) = nth Q.cells a from rfl, hl, hlc] at hph
          rw [← hc]
          refine ⟨⟨fits, trivial⟩, ⟨fitq, trivial⟩, trivial, ?_, by omega, fun _ => ⟨by omega, a0, by rw [qset_len]; exact a1, ?_⟩⟩
          · have e : rootR (setC { S with notes := r } a { nth S.cells a with t := true }) a = { { S with notes := r } with cells := S.cells.set a.toNat { c with n := c.n + refs Q.cells a }, roots := rset S.roots a (rget S.roots a + 1) } := by
              unfold rootR
              simp only
              rw [setC_nth (S := { S with notes := r }) a0 aS a0, if_pos rfl]
              simp only [setC, List.set_set, Hp.mk.injEq, and_true]
              rw [b1, hc]
              congr 2
              simp only
              omega
            show Both A (rootR (setC { S with notes := r } a { nth S.cells a with t := true }) a) _
            rw [e]; exact hB
          · rw [qset_nth (S := { Q with notes := r }) a0 a1 a0, if_pos rfl]; exact ⟨hce, by rw [hcn]; omega⟩
        · have c2' := mt cond2.1 c2
          simp only [if_neg c2, if_neg c2']
          obtain ⟨e1, e2, e3, e4⟩ := both_end ht a0 a1 he hz hA (by omega)
          obtain ⟨i1, i2, i3, i4, i5, i6⟩ := both_next hA n e1 (by omega) (by omega)
          exact ⟨⟨fits, e3, i1⟩, ⟨fitq, e4, i2⟩, i3, i4, by omega, fun e => by obtain ⟨j1, j2⟩ := i6 e; exact ⟨by omega, j2⟩⟩

theorem both_settle {A : Int} (hA : A ≤ 2 ^ 40) {n : Nat} : ∀ (m : Nat) {S : Hp} {Q : Rp}, Both A S Q → phi Q < m → phi Q < n → phi Q < 2 ^ 38 →
    SafeS m n S ∧ SafeT m n Q ∧ (settleR m n S).2 = (settleQ m n Q).2 ∧ Both A (settleR m n S).1 (settleQ m n Q).1 ∧ phi (settleQ m n Q).1 ≤ phi Q
  | 0, S, Q, _, h, _, _ => absurd h (by omega)
  | m + 1, S, Q, h, hm, hn, hp => by
    obtain ⟨i1, i2, i3, i4, i5, i6⟩ := both_next hA n h hn hp
    simp only [SafeS, SafeT, settleR, settleQ]
    rw [i3]
    by_cases ht : (nextQ n Q).2.2 = true
    · obtain ⟨j1, j2, j3, j4, j5⟩ := i6 ht
      simp only [ht]
      obtain ⟨g, gp⟩ := both_unroot i4 j2 j3 j5
      have hd : dropQ (nextQ n Q).1 (nextQ n Q).2.1 = (noteQ (qset (nextQ n Q).1 (nextQ n Q).2.1 { nth (nextQ n Q).1.cells (nextQ n Q).2.1 with n := (nth (nextQ n Q).1.cells (nextQ n Q).2.1).n - 1 }) (nextQ n Q).2.1, 0) := by
        unfold dropQ
        have : hasR (nextQ n Q).1.hp (nextQ n Q).2.1 true = 0 := by
          unfold hasR
          simp only [Rp.hp_cells]
          rw [if_neg (by omega), if_neg (by rw [j4]; simp)]
        rw [this, if_neg (by simp), if_neg j5]
      rw [hd]
      obtain ⟨k1, k2, k3, k4, k5⟩ := both_settle (n := n) hA m g (by omega) (by omega) (by omega)
      have bnd := i4.sim.bnd i4.good hA (by omega)
      have aS : (nextQ n Q).2.1 < (nextR n S).1.cells.length := by rw [i4.sim.len]; exact j3
      have gn := i4.good.n _ (nth_mem j2 j3)
      have age0 : 0 ≤ age (nth (nextQ n Q).1.cells (nextQ n Q).2.1) := by unfold age; split <;> omega
      have fits : Fits (nextR n S).1 (nextQ n Q).2.1 := ⟨j2, aS, by rw [i4.sim.len]; have := i4.good.shp.len; omega, fun c hc => by
        obtain ⟨i, hi, e⟩ := mem_nth hc
        rw [i4.sim.len] at hi
        have := (i4.sim.cell (i := (i : Int)) (by omega) (by omega)).1
        rw [← e, this]
        have := i4.good.shp.fl _ (nth_mem (l := (nextQ n Q).1.cells) (i := (i : Int)) (by omega) (by omega))
        omega, bnd, by
          rw [(i4.sim.at_ _ j2 j3).2]
          omega⟩
      refine ⟨⟨i1, fun _ => ⟨fits, k1⟩⟩, ⟨i2, fun _ => ⟨i4.good.qbnd hA (by omega), fun c hc => (i4.good.n c hc).1, k2⟩⟩, ?_, ?_, ?_⟩
      · simp [k3]
      · simpa using k4
      · rw [if_neg (by simp)]; exact Nat.le_trans k5 (Nat.le_trans gp (by omega))
    · have ht' : (nextQ n Q).2.2 = false := by simpa using ht
      simp only [ht']
      exact ⟨⟨i1, fun e => by cases e⟩, ⟨i2, fun e => by cases e⟩, by simp, by simpa using i4, by simpa using i5⟩
end Go.Am
