/- The plain law of HeapSettles: lost cells hang on cycles; sets kept in maps. -/
import Derived.Test.YtigpdaofldfkoaaAmNote
import Derived.Test.YtigpdaofldfkoaaAmHeapV
import Derived.Test.YtigpdaofldfkoaaAmHeapCs
set_option linter.unusedVariables false
set_option linter.unusedSimpArgs false
namespace Go.Am
/-! ### A set of numbers, kept in a map -/
def encT (k : Int) : AV × AV := (.int .i64 k, .bool true)
theorem tfind (a : Int) : ∀ (ks : List Int) (i : Nat), (a ∈ ks ∧ ∃ j, findK .int (.int .i64 a) (ks.map encT) i = some (some (i + j, .bool true)) ∧ (ks.map encT).set j (.int .i64 a, .bool true) = ks.map encT) ∨ (a ∉ ks ∧ findK .int (.int .i64 a) (ks.map encT) i = some none)
  | [], i => .inr ⟨by simp, rfl⟩
  | k :: r, i => by
    by_cases e : k = a
    · subst e
      exact .inl ⟨by simp, 0, by simp [findK, encT, keyEq], by simp [encT]⟩
    · have hne : (a == k) = false := by simpa using fun h : a = k => e h.symm
      have hf : findK .int (.int .i64 a) ((k :: r).map encT) i = findK .int (.int .i64 a) (r.map encT) (i + 1) := by simp [findK, encT, keyEq, hne]
      rcases tfind a r (i + 1) with ⟨h1, j, h2, h3⟩ | ⟨h1, h2⟩
      · exact .inl ⟨by simp [h1], j + 1, by rw [hf, h2]; congr 3; omega, by simp [h3]⟩
      · exact .inr ⟨by simp [h1, Ne.symm e], by rw [hf, h2]⟩
/-- A map that is nobody's, of what is in a set. -/
structure Ms (tg : Tags) (H : AHeap) (m : Nat) (ks : List Int) : Prop where
  mp : Mp H m (ks.map encT)
  no : tg m = none
section
variable {H K : AHeap} {tg tg' : Tags} {m : Nat} {ks : List Int}
theorem Ms.up {k : Nat} (h : Ms tg H m ks) (hw : WF H) (u : Up k tg tg' H K) : Ms tg' K m ks := by
  have hf := h.mp.lt hw
  have hno : ¬tg.own k m := by rintro ⟨t, ht⟩; rw [h.no] at ht; cases ht
  refine ⟨h.mp.keeps u.keeps hno, ?_⟩
  rcases u.tag m with e | ⟨e, _⟩
  · rw [e]; exact h.no
  · rcases e with e | e
    · exact absurd e hno
    · omega
theorem Ms.free (h : Ms tg H m ks) (hw : WF H) (f : Fr H K) : Ms tg K m ks := ⟨h.mp.keeps f.keeps (by have := h.mp.lt hw; omega), h.no⟩
theorem Ms.step {D : Nat → Prop} (h : Ms tg H m ks) (f : Keeps D H K) (hm : ¬D m) : Ms tg K m ks := ⟨h.mp.keeps f hm, h.no⟩
theorem Ms.look (h : Ms tg H m ks) (a : Int) : rsem (.look .int (.bool false) false) [.map (some m), .int .i64 a] H = some (.bool (decide (a ∈ ks))) := by
  rcases tfind a ks 0 with ⟨h1, j, h2, _⟩ | ⟨h1, h2⟩
  · rw [h.mp.look rfl h2]; simp [h1]
  · rw [h.mp.look rfl h2]; simp [h1]
theorem Ms.put (h : Ms tg H m ks) (hw : WF H) (a : Int) :
    ∃ K ks', wsem0 (.mset .int) [.map (some m), .int .i64 a, .bool true] H = some (.undef, K) ∧ WF K ∧ Ms tg K m ks' ∧ (∀ c, c ∈ ks' ↔ c = a ∨ c ∈ ks) ∧ Keeps (fun g => g = m) H K := by
  rcases tfind a ks 0 with ⟨h1, j, h2, h3⟩ | ⟨h1, h2⟩
  · obtain ⟨H', q1, q2⟩ := h.mp.mset' hw (v := .bool true) rfl h2
    rw [Nat.zero_add, h3] at q2
    exact ⟨H', ks, q1, q2.wf, ⟨q2.mp, h.no⟩, fun c => ⟨.inr, fun hc => by rcases hc with rfl | hc; exact h1; exact hc⟩, q2.keeps⟩
  · obtain ⟨H', q1, q2⟩ := h.mp.mset hw (v := .bool true) rfl h2
    exact ⟨H', ks ++ [a], q1, q2.wf, ⟨by simpa [encT] using q2.mp, h.no⟩, fun c => by simp [or_comm], q2.keeps⟩
/-- A list of nobody, of no family in E. -/
def FreeX (tg : Tags) (E : Nat → Prop) (H : AHeap) (v : AV) (l : List Int) : Prop := ∃ f, Own encI 1 H v l f ∧ ∀ g, f = some g → ¬E g ∧ tg g = Option.none
theorem Free.x {n : Nat} {v : AV} {l : List Int} (h : Free tg H n v l) : FreeX tg (fun g => g < n) H v l := by
  obtain ⟨f, h1, h2⟩ := h
  exact ⟨f, h1, fun g hg => ⟨by have := (h2 g hg).1; omega, (h2 g hg).2⟩⟩
theorem FreeX.sl {E : Nat → Prop} {v : AV} {l : List Int} (h : FreeX tg E H v l) : Sl encI 1 H v l := h.choose_spec.1.1
theorem FreeX.mono {E E' : Nat → Prop} {v : AV} {l : List Int} (h : FreeX tg E H v l) (hE : ∀ g, E' g → E g) : FreeX tg E' H v l := by
  obtain ⟨f, h1, h2⟩ := h
  exact ⟨f, h1, fun g hg => ⟨fun e => (h2 g hg).1 (hE g e), (h2 g hg).2⟩⟩
/-- What comes later is not its family. -/
theorem FreeX.late {E : Nat → Prop} {v : AV} {l : List Int} (h : FreeX tg E H v l) (hw : WF H) : FreeX tg (fun g => E g ∨ H.next ≤ g) H v l := by
  obtain ⟨f, h1, h2⟩ := h
  refine ⟨f, h1, fun g hg => ⟨?_, (h2 g hg).2⟩⟩
  subst hg
  have := h1.2.lt hw
  rintro (e | e)
  · exact (h2 g rfl).1 e
  · omega
theorem FreeX.up {k : Nat} {E : Nat → Prop} {v : AV} {l : List Int} (h : FreeX tg E H v l) (hw : WF H) (u : Up k tg tg' H K) : FreeX tg' E K v l := by
  obtain ⟨f, h1, h2⟩ := h
  have hno : ∀ g, f = some g → ¬tg.own k g := by
    rintro g hg ⟨t, ht⟩
    rw [(h2 g hg).2] at ht; cases ht
  refine ⟨f, h1.keeps hw u.keeps hno, fun g hg => ⟨(h2 g hg).1, ?_⟩⟩
  have hl := h1.2
  rw [hg] at hl
  have hl := hl.lt hw
  rcases u.tag g with e | ⟨e, _⟩
  · rw [e]; exact (h2 g hg).2
  · rcases e with e | e
    · exact absurd e (hno g hg)
    · omega
theorem FreeX.step {D E : Nat → Prop} {v : AV} {l : List Int} (h : FreeX tg E H v l) (hw : WF H) (f : Keeps D H K) (hD : ∀ g, D g → E g) : FreeX tg E K v l := by
  obtain ⟨ff, h1, h2⟩ := h
  exact ⟨ff, h1.keeps hw f fun g hg hd => (h2 g hg).1 (hD g hd), h2⟩
end
/-! ### What hangs on what -/
/-- In r steps at most, along the list L, from one that is held. -/
def Near (cs : List Cel) (L : List Int) (base : Int → Prop) : Nat → Int → Prop
  | 0, i => i ∈ L ∧ base i
  | r + 1, i => Near cs L base r i ∨ ∃ j ∈ L, Near cs L base r j ∧ i ∈ strongs (nth cs j).fs
theorem Near.mono {cs : List Cel} {L : List Int} {base : Int → Prop} {i : Int} {r : Nat} (h : Near cs L base r i) : ∀ n, Near cs L base (r + n) i
  | 0 => h
  | n + 1 => .inl (Near.mono h n)
theorem pigeon {L : List Int} (f : Nat → Int) (h : ∀ n, f n ∈ L) : ∃ a b, a < b ∧ b ≤ L.length ∧ f a = f b := by
  apply Classical.byContradiction
  intro hc
  have nd : ((List.range (L.length + 1)).map f).Nodup := by
    unfold List.Nodup
    rw [List.pairwise_map]
    refine List.Pairwise.imp_of_mem (R := (· < ·)) (fun {a b} ha hb hab e => ?_) List.pairwise_lt_range
    rw [List.mem_range] at ha hb
    exact hc ⟨a, b, hab, by omega, e⟩
  have := List.Nodup.length_le_of_subset nd (l₂ := L) fun x hx => by
    obtain ⟨n, _, rfl⟩ := List.mem_map.1 hx
    exact h n
  simp at this
  omega
/-- Who is led to from the list alone hangs on a cycle. -/
theorem all_near {cs : List Cel} {L : List Int} {base : Int → Prop} (hp : ∀ i ∈ L, ∃ j ∈ L, i ∈ strongs (nth cs j).fs) (hb : ∀ i ∈ L, (∃ c ∈ strongs (nth cs i).fs, Reach cs c i) → base i) {i : Int} (hi : i ∈ L) : Near cs L base L.length i := by
  have hp' : ∀ i : { x : Int // x ∈ L }, ∃ j : { x : Int // x ∈ L }, i.1 ∈ strongs (nth cs j.1).fs := fun i => by
    obtain ⟨j, h1, h2⟩ := hp i.1 i.2
    exact ⟨⟨j, h1⟩, h2⟩
  obtain ⟨pred, hpred⟩ := Classical.axiomOfChoice hp'
  let p : Nat → { x : Int // x ∈ L } := fun n => Nat.rec ⟨i, hi⟩ (fun _ q => pred q) n
  have hs : ∀ n, (p n).1 ∈ strongs (nth cs (p (n + 1)).1).fs := fun n => hpred (p n)
  obtain ⟨a, b, hab, hbl, e⟩ := pigeon (fun n => (p n).1) fun n => (p n).2
  -- from a later one to an earlier one
  have down : ∀ m n, Reach cs (p (m + n)).1 (p m).1 := by
    intro m n
    induction n with
    | zero => exact .refl _
    | succ n ih =>
      have h1 : Reach cs (p (m + n + 1)).1 (p (m + n)).1 := .step (.refl _) (hs _)
      exact h1.trans' ih
  have hcyc : base (p a).1 := by
    apply hb _ (p a).2
    obtain ⟨d, rfl⟩ : ∃ d, b = a + d + 1 := ⟨b - a - 1, by omega⟩
    have e : (p a).1 = (p (a + d + 1)).1 := e
    refine ⟨(p (a + d)).1, ?_, down a d⟩
    conv => arg 1; rw [e]
    exact hs _
  have near : ∀ n, n ≤ a → Near cs L base n (p (a - n)).1 := by
    intro n
    induction n with
    | zero => intro _; exact ⟨(p a).2, hcyc⟩
    | succ n ih =>
      intro hn
      refine .inr ⟨_, (p (a - n)).2, ih (by omega), ?_⟩
      have := hs (a - (n + 1))
      rw [show a - (n + 1) + 1 = a - n by omega] at this
      exact this
  have h := near a (Nat.le_refl _)
  rw [Nat.sub_self] at h
  have := h.mono (L.length - a)
  rwa [show a + (L.length - a) = L.length by omega] at this
/-! ### Cycles name all that lead to themselves -/
section
variable (M : Nat → Nat → Bool)
theorem cyc_in {n : Nat} {lo : Nat → Nat} : ∀ k i, (cycGo M n lo k).1 i = true → ∃ x ∈ (cycGo M n lo k).2, i ∈ x
  | 0, i, h => by simp [cycGo] at h
  | k + 1, i, h => by
    unfold cycGo at h ⊢
    split at h
    · rename_i hc
      rw [if_pos hc]
      exact cyc_in k i h
    · rename_i hc
      rw [if_neg hc]
      simp only [Bool.or_eq_true, decide_eq_true_eq] at h
      rcases h with h | h
      · obtain ⟨x, h1, h2⟩ := cyc_in k i h
        exact ⟨x, by simp [h1], h2⟩
      · exact ⟨_, by simp, h⟩
theorem cyc_keep {n : Nat} {lo : Nat → Nat} {k i : Nat} (h : (cycGo M n lo k).1 i = true) : ∀ m, (cycGo M n lo (k + m)).1 i = true
  | 0 => h
  | m + 1 => by
    have ih := cyc_keep h m
    show (cycGo M n lo (k + m + 1)).1 i = true
    unfold cycGo
    split
    · exact ih
    · simp [ih]
theorem cyc_all {n i : Nat} (hi : i < n) (hM : M i i = true) : ∃ x ∈ (cycGo M n (fun _ => 0) n).2, i ∈ x := by
  have h1 : (cycGo M n (fun _ => 0) (i + 1)).1 i = true := by
    by_cases hd : (cycGo M n (fun _ => 0) i).1 i = true
    · exact cyc_keep M hd 1
    · unfold cycGo
      rw [if_neg (by simp [hd, hM])]
      simp [grp, hi, hM]
  have h2 := cyc_keep M h1 (n - (i + 1))
  rw [show i + 1 + (n - (i + 1)) = n by omega] at h2
  exact cyc_in M n i h2
end
/-! ### What Settle leaves -/
/-- Who is in the list of what is lost. -/
theorem mem_numsTo {bs : List Bool} {a : Int} : a ∈ numsTo bs bs.length ↔ 0 ≤ a ∧ a < bs.length ∧ nth bs a = true := by
  unfold numsTo
  constructor
  · intro h
    obtain ⟨i, hi, rfl⟩ := List.mem_map.1 h
    obtain ⟨h1, h2⟩ := List.mem_filter.1 hi
    rw [List.mem_range] at h1
    exact ⟨by omega, by omega, h2⟩
  · rintro ⟨h0, h1, h2⟩
    refine List.mem_map.2 ⟨a.toNat, List.mem_filter.2 ⟨List.mem_range.2 (by omega), ?_⟩, by omega⟩
    rw [show ((a.toNat : Nat) : Int) = a by omega]; exact h2
theorem refs_from {cs : List Cel} {i : Int} (h : 0 < refs cs i) : ∃ j : Int, 0 ≤ j ∧ j < cs.length ∧ i ∈ strongs (nth cs j).fs := by
  apply Classical.byContradiction
  intro hc
  have : ∀ c ∈ cs, cnt c.fs i = 0 := by
    intro c hcm
    obtain ⟨j, hj, rfl⟩ := mem_nth hcm
    unfold cnt
    rw [List.countP_eq_zero]
    intro x hx hs
    apply hc
    refine ⟨j, by omega, by omega, ?_⟩
    unfold strongs
    refine List.mem_map.2 ⟨x, List.mem_filter.2 ⟨hx, ?_⟩, (strong_eq.1 hs).2.2⟩
    simp [(strong_eq.1 hs).1, (strong_eq.1 hs).2.1]
  have hz : refs cs i = 0 := by
    unfold refs
    rw [List.map_congr_left (g := fun _ => 0) (fun c hcm => this c hcm)]
    clear h hc this
    induction cs with
    | nil => rfl
    | cons c cs ih => simp only [List.map_cons, List.sum_cons, Nat.zero_add]; exact ih
  omega
theorem lost_pred {A : Int} {S : Hp} {Q : Rp} (hB : Both A S Q) (hd : Dry Q) (hN : Noted Q) (hn : Q.notes = []) {bs ls : List Bool} (led : Led S bs) (lost : LostB S bs ls) :
    ∀ i ∈ numsTo ls ls.length, ∃ j ∈ numsTo ls ls.length, i ∈ strongs (nth S.cells j).fs := by
  intro i hi
  obtain ⟨i0, i1, hl⟩ := mem_numsTo.1 hi
  have hlb := lost.1
  have hbS := led.1
  have hSQ := hB.sim.len
  have g := graph hB hd
  obtain ⟨g1, g2, g3, g4⟩ := both_graph hB g
  rw [lost.2 i i0 (by omega)] at hl
  simp at hl
  obtain ⟨hb, he⟩ := hl
  have iS : i < S.cells.length := by omega
  have notRoot : ¬ i ∈ S.roots.map (·.1) := fun h => by
    have := (led.2 i i0 iS).2 ⟨i, h, .refl i⟩
    rw [hb] at this; cases this
  have iQ : i < Q.cells.length := by omega
  have hn0 : (nth Q.cells i).n = 0 := by
    have := hB.isRoot (r := i)
    have h2 : ¬ 0 < (nth Q.cells i).n := fun h => notRoot (this.2 ⟨i0, iQ, h⟩)
    have := (hB.good.n _ (nth_mem i0 iQ)).1
    omega
  have heQ : (nth Q.cells i).e = false := by rw [← (hB.fs i).2]; exact he
  have hpos : 0 < refs Q.cells i := by
    apply Classical.byContradiction
    intro hc
    have := hN i i0 iQ heQ (by omega)
    rw [hn] at this
    cases this
  obtain ⟨j, j0, j1, hj⟩ := refs_from hpos
  rw [← (hB.fs j).1] at hj
  have jS : j < S.cells.length := by omega
  refine ⟨j, mem_numsTo.2 ⟨j0, by omega, ?_⟩, hj⟩
  rw [lost.2 j j0 (by omega)]
  have hjb : nth bs j = false := by
    cases h : nth bs j with
    | false => rfl
    | true =>
      obtain ⟨r, hr, hx⟩ := (led.2 j j0 jS).1 h
      have := (led.2 i i0 iS).2 ⟨r, hr, hx.step hj⟩
      rw [hb] at this; cases this
  have hje : (nth S.cells j).e = false := by
    cases h : (nth S.cells j).e with
    | false => rfl
    | true =>
      rw [(hB.fs j).2] at h
      have := g.dry j j0 (by omega) h
      rw [(hB.fs j).1, this] at hj
      cases hj
  rw [hjb, hje]; rfl
end Go.Am
