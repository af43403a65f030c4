/- The plain law of the heap: each act. -/
import Derived.Test.YtpdedphkjkhddaaAmHeapL
set_option linter.unusedVariables false
set_option linter.unusedSimpArgs false
namespace Go.Am

/-- A cell's number and marks are others; its fields are not. -/
theorem refs_same {cs : List Cel} {i : Int} (h0 : 0 ≤ i) (h1 : i < cs.length) {c : Cel} (hf : c.fs = (nth cs i).fs) (a : Int) : refs (cs.set i.toNat c) a = refs cs a := by
  have := refs_set h0 h1 c a
  rw [hf] at this
  omega

theorem rget_rset (es : List (Int × Int)) (k v : Int) : ∀ j, rget (rset es k v) j = if j = k then v else rget es j := by
  intro j
  induction es with
  | nil => simp [rset, rget]; by_cases h : k = j <;> simp [h, eq_comm]
  | cons e r ih =>
    obtain ⟨a, w⟩ := e
    unfold rset
    by_cases h : a = k
    · subst h
      simp only [if_true, rget]
      by_cases hj : j = a
      · subst hj; simp
      · rw [if_neg (Ne.symm hj), if_neg hj, if_neg (Ne.symm hj)]
    · rw [if_neg h]
      simp only [rget]
      by_cases hj : a = j
      · subst hj; simp [h]
      · rw [if_neg hj, if_neg hj, ih]

def Keys (es : List (Int × Int)) : Prop := (es.map (·.1)).Nodup
theorem rget_not {es : List (Int × Int)} {k : Int} (h : k ∉ es.map (·.1)) : rget es k = 0 := by
  induction es with
  | nil => rfl
  | cons e r ih =>
    obtain ⟨a, w⟩ := e
    simp only [List.map_cons, List.mem_cons, not_or] at h
    unfold rget
    rw [if_neg (Ne.symm h.1)]; exact ih h.2
theorem mem_rset {es : List (Int × Int)} {k v j : Int} : j ∈ (rset es k v).map (·.1) ↔ j = k ∨ j ∈ es.map (·.1) := by
  induction es with
  | nil => simp [rset]
  | cons e r ih =>
    obtain ⟨a, w⟩ := e
    unfold rset
    by_cases h : a = k
    · subst h; simp
    · rw [if_neg h]
      simp only [List.map_cons, List.mem_cons, ih]
      constructor
      · rintro (h | h | h)
        · exact .inr (.inl h)
        · exact .inl h
        · exact .inr (.inr h)
      · rintro (h | h | h)
        · exact .inr (.inl h)
        · exact .inl h
        · exact .inr (.inr h)
theorem Keys.rset {es : List (Int × Int)} (h : Keys es) (k v : Int) : Keys (rset es k v) := by
  induction es with
  | nil => simp [Keys, Go.Am.rset]
  | cons e r ih =>
    obtain ⟨a, w⟩ := e
    obtain ⟨h1, h2⟩ := List.nodup_cons.1 h
    unfold Go.Am.rset
    by_cases hk : a = k
    · subst hk; rw [if_pos rfl]; exact List.nodup_cons.2 ⟨h1, h2⟩
    · rw [if_neg hk]
      refine List.nodup_cons.2 ⟨?_, ih h2⟩
      rw [mem_rset]
      rintro (e | e)
      · exact hk e
      · exact h1 e
theorem mem_rdel {es : List (Int × Int)} {k j : Int} (h : j ∈ (rdel es k).map (·.1)) : j ∈ es.map (·.1) := by
  induction es with
  | nil => simp [rdel] at h
  | cons e r ih =>
    obtain ⟨a, w⟩ := e
    unfold rdel at h
    by_cases hk : a = k
    · rw [if_pos hk] at h; simp only [List.map_cons, List.mem_cons]; exact .inr h
    · rw [if_neg hk] at h
      simp only [List.map_cons, List.mem_cons] at h ⊢
      exact h.imp id ih
theorem Keys.rdel {es : List (Int × Int)} (h : Keys es) (k : Int) : Keys (rdel es k) := by
  induction es with
  | nil => exact h
  | cons e r ih =>
    obtain ⟨a, w⟩ := e
    obtain ⟨h1, h2⟩ := List.nodup_cons.1 h
    unfold Go.Am.rdel
    by_cases hk : a = k
    · rw [if_pos hk]; exact h2
    · rw [if_neg hk]; exact List.nodup_cons.2 ⟨fun hm => h1 (mem_rdel hm), ih h2⟩
theorem rget_rdel {es : List (Int × Int)} (h : Keys es) (k : Int) : ∀ j, rget (rdel es k) j = if j = k then 0 else rget es j := by
  intro j
  induction es with
  | nil => simp [rdel, rget]
  | cons e r ih =>
    obtain ⟨a, w⟩ := e
    obtain ⟨h1, h2⟩ := List.nodup_cons.1 h
    unfold rdel
    by_cases hk : a = k
    · subst hk
      rw [if_pos rfl]
      by_cases hj : j = a
      · subst hj; rw [if_pos rfl]; exact rget_not h1
      · rw [if_neg hj]; simp only [rget]; rw [if_neg (Ne.symm hj)]
    · rw [if_neg hk]
      simp only [rget]
      by_cases hj : a = j
      · subst hj; simp [hk]
      · rw [if_neg hj, if_neg hj, ih h2]

/-- The roots' map: each key once, in range, and never 0. -/
structure RootsOk (S : Hp) : Prop where
  keys : Keys S.roots
  in_ : ∀ e ∈ S.roots, 0 ≤ e.1 ∧ e.1 < S.cells.length ∧ 0 < e.2

/-- Both, and all that always holds. -/
structure Both (A : Int) (S : Hp) (Q : Rp) : Prop where
  sim : Sim S Q
  good : Sane A Q
  ro : RootsOk S

theorem mem_rset_e {es : List (Int × Int)} {k v : Int} : ∀ e ∈ rset es k v, e = (k, v) ∨ e ∈ es := by
  induction es with
  | nil => intro e he; simp [rset] at he; exact .inl he
  | cons d r ih =>
    obtain ⟨a, w⟩ := d
    intro e he
    unfold rset at he
    by_cases h : a = k
    · rw [if_pos h] at he
      rcases List.mem_cons.1 he with he | he
      · exact .inl he
      · exact .inr (List.mem_cons.2 (.inr he))
    · rw [if_neg h] at he
      rcases List.mem_cons.1 he with he | he
      · exact .inr (List.mem_cons.2 (.inl he))
      · exact (ih e he).imp id fun h => List.mem_cons.2 (.inr h)
theorem mem_rdel_e {es : List (Int × Int)} {k : Int} : ∀ e ∈ rdel es k, e ∈ es := by
  induction es with
  | nil => intro e he; simp [rdel] at he
  | cons d r ih =>
    obtain ⟨a, w⟩ := d
    intro e he
    unfold rdel at he
    by_cases h : a = k
    · rw [if_pos h] at he; exact List.mem_cons.2 (.inr he)
    · rw [if_neg h] at he
      rcases List.mem_cons.1 he with he | he
      · exact List.mem_cons.2 (.inl he)
      · exact List.mem_cons.2 (.inr (ih e he))
theorem mem_rdel_set {es : List (Int × Int)} (hk : Keys es) {k v : Int} : ∀ e ∈ rdel (rset es k v) k, e.1 ≠ k := by
  intro e he hc
  have h2 := rget_rdel (hk.rset k v) k
  have h3 : Keys (rdel (rset es k v) k) := (hk.rset k v).rdel k
  have : k ∉ (rdel (rset es k v) k).map (·.1) := by
    clear he hc h2 h3
    induction es with
    | nil => simp [rset, rdel]
    | cons d r ih =>
      obtain ⟨a, w⟩ := d
      obtain ⟨h1, h2⟩ := List.nodup_cons.1 hk
      unfold rset
      by_cases ha : a = k
      · subst ha; rw [if_pos rfl]; unfold rdel; rw [if_pos rfl]; exact h1
      · rw [if_neg ha]; unfold rdel; rw [if_neg ha]
        simp only [List.map_cons, List.mem_cons, not_or]
        exact ⟨Ne.symm ha, ih h2⟩
  exact this (List.mem_map.2 ⟨e, he, hc⟩)

/-- Fields that are emptied leave the roots. -/
theorem lessR_roots {S : Hp} {i : Int} : (lessR S i).roots = S.roots := by unfold lessR; simp only; split <;> rfl
theorem emptyR_roots {S : Hp} {i f : Int} : (emptyR S i f).roots = S.roots := by unfold emptyR; simp only; split; exact lessR_roots; rfl
theorem RootsOk.of {S S' : Hp} (h : RootsOk S) (h1 : S'.roots = S.roots) (h2 : S'.cells.length = S.cells.length) : RootsOk S' := ⟨by rw [h1]; exact h.keys, by rw [h1, h2]; exact h.in_⟩

theorem both_empty {A : Int} {S : Hp} {Q : Rp} (h : Both A S Q) {i f : Int} (h0 : 0 ≤ i) (h1 : i < Q.cells.length) (f0 : 0 ≤ f) (f1 : f < (nth Q.cells i).fs.length) :
    Both A (emptyR S i f) (emptyQ Q i f) ∧ phi (emptyQ Q i f) ≤ phi Q + 1 := by
  obtain ⟨e1, e2, e3⟩ := sim_empty h.sim h.good h0 h1 f0 f1
  exact ⟨⟨e1, e2, h.ro.of emptyR_roots emptyR_len⟩, e3⟩

/-- What is told of a cell changes, and its fields stay: general. -/
theorem both_cell {A : Int} {S : Hp} {Q : Rp} (h : Both A S Q) {i : Int} (h0 : 0 ≤ i) (h1 : i < Q.cells.length) {c : Cel} (hf : c.fs = (nth Q.cells i).fs) (hn : 0 ≤ c.n ∧ c.n + age c ≤ A) (he : c.e = true → c.n = 0 ∧ refs Q.cells i = 0)
    {rs : List (Int × Int)} (hr : ∀ j, rget rs j = if j = i then c.n else rget S.roots j) (hk : Keys rs) (hin : ∀ e ∈ rs, 0 ≤ e.1 ∧ e.1 < S.cells.length ∧ 0 < e.2) :
    Both A { S with cells := S.cells.set i.toNat { c with n := c.n + refs Q.cells i }, roots := rs } (qset Q i c) := by
  have hS1 : i < S.cells.length := by rw [h.sim.len]; exact h1
  refine ⟨⟨by simp [h.sim.len], h.sim.notes, fun a a0 a1 => ?_⟩, ⟨h.good.shp.set (by rw [hf]; exact h.good.shp.fl _ (nth_mem h0 h1)), ?_, by rw [qset_len]; exact h.good.notes, mem_set_of h.good.n hn, ?_⟩, ⟨hk, by simpa using hin⟩⟩
  · rw [qset_len] at a1
    obtain ⟨b1, b2⟩ := h.sim.at_ a a0 a1
    have hre : refs (qset Q i c).cells a = refs Q.cells a := refs_same h0 h1 hf a
    rw [hre, qset_nth h0 h1 a0]
    simp only
    rw [nth_set h0 hS1 a0, hr]
    by_cases e : i = a
    · subst e; simp
    · rw [if_neg e, if_neg e, if_neg (Ne.symm e)]; exact ⟨b1, b2⟩
  · rw [qset_len]; exact mem_set_of h.good.to (by rw [hf]; exact h.good.to _ (nth_mem h0 h1))
  · intro a a0 a1 hea
    rw [qset_len] at a1
    have hre : refs (qset Q i c).cells a = refs Q.cells a := refs_same h0 h1 hf a
    rw [hre]
    rw [qset_nth h0 h1 a0] at hea ⊢
    by_cases e : i = a
    · subst e; rw [if_pos rfl] at hea ⊢; exact he hea
    · rw [if_neg e] at hea ⊢; exact h.good.en a a0 a1 hea

theorem phi_cell {Q : Rp} {i : Int} (h0 : 0 ≤ i) (h1 : i < Q.cells.length) {c : Cel} (hc : life c ≤ life (nth Q.cells i)) : phi (qset Q i c) ≤ phi Q := by
  have := phi_set h0 h1 c; omega

theorem Sane.mono {A B : Int} {Q : Rp} (g : Sane A Q) (h : A ≤ B) : Sane B Q := ⟨g.shp, g.to, g.notes, fun c hc => by have := g.n c hc; omega, g.en⟩
theorem Both.mono {A B : Int} {S : Hp} {Q : Rp} (g : Both A S Q) (h : A ≤ B) : Both B S Q := ⟨g.sim, g.good.mono h, g.ro⟩

/-! ### Make -/
theorem refs_append (cs : List Cel) (c : Cel) (a : Int) : refs (cs ++ [c]) a = refs cs a + cnt c.fs a := by simp [refs]
theorem nth_append {cs : List Cel} {c : Cel} {i : Int} (h0 : 0 ≤ i) (h1 : i < cs.length) : nth (cs ++ [c]) i = nth cs i := by
  have hi : i.toNat < cs.length := by omega
  unfold nth
  rw [List.getD_eq_getElem?_getD, List.getD_eq_getElem?_getD, List.getElem?_append_left hi]
theorem nth_append_last {cs : List Cel} {c : Cel} {i : Int} (h1 : i = cs.length) : nth (cs ++ [c]) i = c := by
  subst h1
  unfold nth
  rw [List.getD_eq_getElem?_getD, Int.toNat_natCast, List.getElem?_append_right (Nat.le_refl _)]
  simp
theorem cnt_zeros (n : Nat) (a : Int) : cnt (List.replicate n (⟨false, false, 0⟩ : Fld)) a = 0 := by
  unfold cnt; rw [List.countP_eq_zero]; intro x hx; rw [(List.mem_replicate.1 hx).2]; simp [strongTo]
theorem refs_out {A : Int} {Q : Rp} (g : Sane A Q) {a : Int} (ha : ¬ (0 ≤ a ∧ a < Q.cells.length)) : refs Q.cells a = 0 := by
  have key : ∀ cs : List Cel, (∀ c ∈ cs, ∀ x ∈ c.fs, x.is = true → x.to ≠ a) → refs cs a = 0 := by
    intro cs
    induction cs with
    | nil => intro _; rfl
    | cons c r ih =>
      intro h
      have e1 := ih fun d hd => h d (by simp [hd])
      have e2 : cnt c.fs a = 0 := by
        unfold cnt; rw [List.countP_eq_zero]
        intro x hx hs
        exact h c (by simp) x hx (strong_eq.1 hs).1 (strong_eq.1 hs).2.2
      simp only [refs, List.map_cons, List.sum_cons] at e1 ⊢
      omega
  exact key _ fun c hc x hx hi e => ha (by rw [← e]; exact g.to c hc x hx hi)

theorem both_make {A : Int} (hA : 1 ≤ A) {S : Hp} {Q : Rp} (h : Both A S Q) (n : Int) (w : Bool) :
    (makeR S n w).2 = (makeQ Q n w).2 ∧ Both A (makeR S n w).1 (makeQ Q n w).1 ∧ phi (makeQ Q n w).1 ≤ phi Q + 12 := by
  unfold makeQ makeR
  by_cases c1 : n < 0 ∨ 8 < n
  · rw [if_pos c1, if_pos c1]; exact ⟨rfl, h, by show phi Q ≤ _; omega⟩
  · rw [if_neg c1, if_neg c1]
    have hlen : (S.cells.length = 100) = (Q.hp.cells.length = 100) := by rw [h.sim.len]; rfl
    simp only [hlen]
    by_cases c2 : Q.hp.cells.length = 100
    · rw [if_pos c2, if_pos c2]; exact ⟨rfl, h, by show phi Q ≤ _; omega⟩
    · rw [if_neg c2, if_neg c2]
      have c2' : ¬ Q.cells.length = 100 := c2
      have hl := h.good.shp.len
      obtain ⟨c, hc⟩ : ∃ c : Cel, c = ⟨List.replicate n.toNat ⟨false, false, 0⟩, w, false, false, 0⟩ := ⟨_, rfl⟩
      have hcf : ∀ a, cnt c.fs a = 0 := fun a => by rw [hc]; exact cnt_zeros _ _
      have hre : ∀ a, refs (Q.cells ++ [c]) a = refs Q.cells a := fun a => by rw [refs_append, hcf]; rfl
      refine ⟨by simp [h.sim.len], ?_, ?_⟩
      · show Both A { S with cells := S.cells ++ [_], notes := S.notes ++ [(S.cells.length : Int)] } ⟨Q.cells ++ [_], Q.notes ++ [(Q.cells.length : Int)]⟩
        rw [← hc]
        refine ⟨⟨by simp [h.sim.len], by simp [h.sim.notes, h.sim.len], fun a a0 a1 => ?_⟩, ⟨⟨by simp; omega, ?_⟩, ?_, ?_, ?_, ?_⟩, ⟨h.ro.keys, fun e he => ?_⟩⟩
        · simp only [List.length_append, List.length_singleton, Int.natCast_add, Int.natCast_one] at a1
          rw [hre]
          by_cases e : a = Q.cells.length
          · subst e
            rw [nth_append_last (by rw [h.sim.len]), nth_append_last rfl, refs_out h.good (by omega)]
            refine ⟨by rw [hc]; rfl, ?_⟩
            rw [hc]
            show rget S.roots _ = 0
            refine rget_not fun hm => ?_
            obtain ⟨e, he, hk⟩ := List.mem_map.1 hm
            have := h.ro.in_ e he
            rw [hk, h.sim.len] at this
            omega
          · rw [nth_append a0 (by rw [h.sim.len]; omega), nth_append a0 (by omega)]
            exact h.sim.at_ a a0 (by omega)
        · intro d hd
          rcases List.mem_append.1 hd with hd | hd
          · exact h.good.shp.fl d hd
          · simp at hd; subst hd; rw [hc]; simp; omega
        · intro d hd x hx hi
          simp only [List.length_append, List.length_singleton]
          rcases List.mem_append.1 hd with hd | hd
          · have := h.good.to d hd x hx hi; omega
          · simp at hd; subst hd; rw [hc] at hx
            rw [(List.mem_replicate.1 hx).2] at hi; cases hi
        · intro a ha
          simp only [List.length_append, List.length_singleton]
          rcases List.mem_append.1 ha with ha | ha
          · have := h.good.notes a ha; omega
          · simp at ha; subst ha; omega
        · intro d hd
          rcases List.mem_append.1 hd with hd | hd
          · exact h.good.n d hd
          · simp at hd; subst hd; rw [hc]; simp [age]; exact hA
        · intro a a0 a1 he
          simp only [List.length_append, List.length_singleton, Int.natCast_add, Int.natCast_one] at a1
          simp only [hre]
          by_cases e : a = Q.cells.length
          · rw [nth_append_last e, hc] at he; cases he
          · rw [nth_append a0 (by omega)] at he ⊢
            exact h.good.en a a0 (by omega) he
        · have := h.ro.in_ e he
          simp only [List.length_append, List.length_singleton]
          omega
      · show phi ⟨Q.cells ++ [_], Q.notes ++ [(Q.cells.length : Int)]⟩ ≤ _
        simp [phi, wsum, life]
        omega
end Go.Am
