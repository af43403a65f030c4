/- Lists of lists beside a slice that is written; the sets of Cycles step by step. -/
import Derived.Test.YtigpdaofldfkoaaAmLls
import Derived.Test.YtigpdaofldfkoaaAmCyc
set_option linter.unusedVariables false
set_option linter.unusedSimpArgs false
namespace Go.Am
section
variable {β : Type} {enc : β → AV}
/-- A list of lists, none of them of a family in D. -/
def LlsD (D : Nat → Prop) (enc : β → AV) (n : Nat) (K : AHeap) (v : AV) (ls : List (List β)) : Prop :=
  ∃ (vs : List AV) (f : Option Nat), Own encA 1 K v vs f ∧ (∀ g, f = some g → n ≤ g ∧ ¬D g) ∧ vs.length = ls.length ∧ ∀ i : Nat, i < ls.length → Rd (fun g => f = some g ∨ D g) enc 1 K (encA (nth vs (i : Int))) (nth ls (i : Int))
theorem LlsD.nil {D : Nat → Prop} {n z : Nat} {K : AHeap} : LlsD D enc n K (.slc none z 0 none) [] := ⟨[], none, Own.nil (by simp), by simp, rfl, fun i hi => by simp at hi⟩
theorem LlsD.keeps {D : Nat → Prop} {n : Nat} {K K' : AHeap} {v : AV} {ls : List (List β)} (h : LlsD D enc n K v ls) (hw : WF K) (k : Keeps (fun g => D g ∨ K.next ≤ g) K K') : LlsD D enc n K' v ls := by
  obtain ⟨vs, f, h1, h2, h3, h4⟩ := h
  refine ⟨vs, f, h1.keeps hw k fun g hg => ?_, h2, h3, fun i hi => (h4 i hi).keeps hw (k.mono fun g hg => by rcases hg with hg | hg; exact .inl (.inr hg); exact .inr hg)⟩
  rintro (hd | hd)
  · exact (h2 g hg).2 hd
  · subst hg; have := h1.2.lt hw; omega
theorem LlsD.push {D : Nat → Prop} {n : Nat} {K1 K : AHeap} (w1 : WF K1) (w : WF K) (k : Keeps (fun g => D g ∨ K1.next ≤ g) K1 K) (hn : n ≤ K1.next) (hD : ∀ g, D g → g < K1.next) {v a : AV} {ls : List (List β)} {m : List β} (h : LlsD D enc n K1 v ls) (ha : Made enc 1 K1.next K a m) (hb : (ls.length + 1) * 24 ≤ 2 ^ 46) :
    ∃ v' K', wsem0 (.app 1 24) [v, .slc (some (K.next, 0)) 1 1 (some 1)] (K.new [a]) = some (v', K') ∧ WF K' ∧ Keeps (fun g => n ≤ g ∧ ¬D g) K K' ∧ LlsD D enc n K' v' (ls ++ [m]) := by
  have h' := h.keeps w1 k
  obtain ⟨vs, f, h1, h2, h3, h4⟩ := h
  have hf1 : ∀ g, f = some g → g < K1.next := by
    intro g hg
    subst hg
    exact h1.2.lt w1
  have h1 := h1.keeps w1 k fun g hg => by
    rintro (hd | hd)
    · exact (h2 g hg).2 hd
    · have := hf1 g hg; omega
  have h4 := fun (i : Nat) (hi : i < ls.length) => (h4 i hi).keeps w1 (k.mono fun g hg => by rcases hg with hg | hg; exact .inl (.inr hg); exact .inr hg)
  have hac : encA a = a := encA_cellL ha.sl.form.1
  obtain ⟨v', K', f', q1, q2, q3, q4, q5⟩ := push1 (bytes := 24) w h1 a (by rw [h3]; exact hb) (by omega)
  rw [hac] at q1
  have hDK : ∀ g, D g → g < K.next := fun g hg => Nat.lt_of_lt_of_le (hD g hg) k.next
  have up : ∀ {x : AV} {l : List β}, Rd (fun g => f = some g ∨ D g) enc 1 K x l → Rd (fun g => f' = some g ∨ D g) enc 1 K' x l := by
    intro x l hr
    have := (hr.moreL w).keepsD (q4.mono fun g hg => .inl (.inl hg))
    refine this.mono fun g hg => ?_
    rcases hg with hg | hg
    · rcases q5 g hg with q | q
      · exact .inl (.inl q)
      · exact .inr q
    · exact .inl (.inr hg)
  refine ⟨v', K', q1, q2, q4.mono h2, vs ++ [a], f', q3, ?_, by simp [h3], ?_⟩
  · intro g hg
    rcases q5 g hg with hg | hg
    · exact h2 g hg
    · exact ⟨Nat.le_trans hn (Nat.le_trans k.next hg), fun hd => by have := hDK g hd; omega⟩
  · intro i hi
    rw [nth_snocL, nth_snocL, h3]
    by_cases hl : i < ls.length
    · rw [if_pos hl, if_pos hl]; exact up (h4 i hl)
    · have : i = ls.length := by simp at hi; omega
      rw [if_neg hl, if_pos this, if_neg hl, if_pos this, hac]
      exact up (ha.rd fun g hg => by rcases hg with hg | hg; exact hf1 g hg; exact hD g hg)
end
section
variable {α : Type} {enc : α → AV}
theorem Own.stB [Cell enc] {H : AHeap} (hw : WF H) {v : AV} {l : List α} {f : Option Nat} (h : Own enc 1 H v l f) {i : Int} (h0 : 0 ≤ i) (h1 : i < l.length) (x : α) :
    ∃ H', wsem0 (.st 1) [elt v 1 i, enc x] H = some (.undef, H') ∧ WF H' ∧ Keeps (fun g => f = some g) H H' ∧ Own enc 1 H' v (l.set i.toNat x) f ∧ H'.next = H.next := by
  obtain ⟨⟨hz, p, sv, cap, rfl, hcap, h2⟩, hf⟩ := h
  cases p with
  | none => have h2 : l = [] := h2; subst h2; simp at h1; omega
  | some q =>
    obtain ⟨b, off⟩ := q
    obtain ⟨rfl, g, cs, h4, h5, h6⟩ := h2
    obtain ⟨g', cs', q1, q2, q3⟩ := hf
    rw [h4] at q1; cases q1
    have hbox : Box H b g cs := ⟨h4, q3⟩
    have hi : off + i.toNat < cs.length := by omega
    obtain ⟨H', r1, r2, r3, r4, r5⟩ := hbox.st hw (off := off + i.toNat) (vs := [enc x]) (by simp; omega) (by simpa using Cell.cell x)
    rw [splice_one hi] at r3
    have hc := Cell.cells (enc := enc) x
    refine ⟨H', ?_, r2, r4.mono fun g' hg => by subst hg; exact q2, ⟨⟨Cell.len _, some (b, off), 1, cap, by rw [List.length_set], by simpa using hcap, rfl, g, _, r3.row, by simpa using h5, ?_⟩, g, _, r3.row, q2, r3.fam⟩, r5⟩
    · simp only [elt, Nat.mul_one, wsem0_st, hc, List.length_singleton, if_true, r1]
    · rw [Cell.flat] at h6 ⊢
      rw [List.length_set, List.drop_set, if_neg (by omega), List.take_set, h6, List.map_set]
      congr 1
      omega
end
/-- Numbers as Ints. -/
def ints (l : List Nat) : List Int := l.map fun (i : Nat) => (i : Int)
theorem ints_snoc (l : List Nat) (a : Nat) : ints (l ++ [a]) = ints l ++ [(a : Int)] := by simp [ints]
theorem ints_len (l : List Nat) : (ints l).length = l.length := by simp [ints]
section
variable (M : Nat → Nat → Bool)
theorem grp_succ (q k lo : Nat) : grp M (q + 1) k lo = if lo ≤ q ∧ M k q = true ∧ M q k = true then grp M q k lo ++ [q] else grp M q k lo := by
  unfold grp
  rw [List.range_succ, List.filter_append]
  by_cases h : lo ≤ q ∧ M k q = true ∧ M q k = true
  · rw [if_pos h]; simp [h]
  · rw [if_neg h]
    have : (decide (lo ≤ q) && (M k q && M q k)) = false := by
      cases h1 : M k q <;> cases h2 : M q k <;> by_cases h3 : lo ≤ q <;> simp_all
    simp only [List.filter_cons, this, List.filter_nil]
    simp
theorem grp_len (q k lo : Nat) : (grp M q k lo).length ≤ q := by
  unfold grp
  have := List.length_filter_le (fun i => decide (lo ≤ i) && (M k i && M i k)) (List.range q)
  simpa using this
theorem grp_lo (k lo : Nat) : grp M lo k lo = [] := by
  unfold grp
  rw [List.filter_eq_nil_iff]
  intro a ha
  rw [List.mem_range] at ha
  have : ¬lo ≤ a := by omega
  simp [this]
theorem cyc_len (n : Nat) (lo : Nat → Nat) : ∀ k, (cycGo M n lo k).2.length ≤ k
  | 0 => by simp [cycGo]
  | k + 1 => by
    have := cyc_len n lo k
    unfold cycGo
    split
    · omega
    · simp; omega
/-- What the list of those that are done holds. -/
def DoneB (n : Nat) (d : Nat → Bool) (ds : List Bool) : Prop := ds.length = n ∧ ∀ i : Nat, i < n → nth ds (i : Int) = d i
theorem DoneB.set {n : Nat} {d : Nat → Bool} {ds : List Bool} (h : DoneB n d ds) {q : Nat} (hq : q < n) : DoneB n (fun i => d i || decide (i = q)) (ds.set q true) := by
  refine ⟨by simp [h.1], fun i hi => ?_⟩
  have := nth_set (l := ds) (i := (q : Int)) (j := (i : Int)) (x := true) (by omega) (by rw [h.1]; omega) (by omega)
  rw [Int.toNat_natCast] at this
  rw [this]
  by_cases e : (q : Int) = i
  · rw [if_pos e]; have : i = q := by omega
    simp [this]
  · rw [if_neg e, h.2 i hi]
    have : ¬i = q := by omega
    simp [this]
theorem DoneB.congr {n : Nat} {d d' : Nat → Bool} {ds : List Bool} (h : DoneB n d ds) (e : ∀ i, i < n → d i = d' i) : DoneB n d' ds := ⟨h.1, fun i hi => by rw [h.2 i hi, e i hi]⟩
theorem DoneB.falses (n : Nat) : DoneB n (fun _ => false) (List.replicate n false) := by
  refine ⟨by simp, fun i hi => ?_⟩
  simp [nth, List.getElem?_replicate, hi]
/-- A step of the inner loop. -/
theorem DoneB.grp {n : Nat} {d : Nat → Bool} {ds : List Bool} {q k lo : Nat} (hq : q < n) (h : DoneB n (fun i => d i || decide (i ∈ grp M q k lo)) ds) : DoneB n (fun i => d i || decide (i ∈ grp M (q + 1) k lo)) (if lo ≤ q ∧ M k q = true ∧ M q k = true then ds.set q true else ds) := by
  rw [grp_succ]
  by_cases hc : lo ≤ q ∧ M k q = true ∧ M q k = true
  · rw [if_pos hc, if_pos hc]
    refine (h.set hq).congr fun i hi => ?_
    by_cases e : i = q <;> simp [e]
  · rw [if_neg hc, if_neg hc]; exact h
end
/-- One that k refers to leads to i. -/
noncomputable def lm (cs : List Cel) (k i : Nat) : Bool := @decide (∃ r ∈ strongs (nth cs (k : Int)).fs, Reach cs r (i : Int)) (Classical.propDecidable _)
theorem lm_iff {cs : List Cel} {k i : Nat} : lm cs k i = true ↔ ∃ r ∈ strongs (nth cs (k : Int)).fs, Reach cs r (i : Int) := by simp [lm]
theorem Reach.trans' {cs : List Cel} {a b c : Int} (h : Reach cs a b) (k : Reach cs b c) : Reach cs a c := by
  induction k with
  | refl => exact h
  | step _ hc ih => exact ih.step hc
/-- What is known of a row of leads. -/
def Leads (cs : List Cel) (k : Nat) (bs : List Bool) : Prop := bs.length = cs.length ∧ ∀ i : Nat, i < cs.length → nth bs (i : Int) = lm cs k i
end Go.Am
