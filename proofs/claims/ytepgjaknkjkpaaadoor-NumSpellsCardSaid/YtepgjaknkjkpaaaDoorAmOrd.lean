/- Plain: a stable sort by merging is the stable sort by insertion. -/
import Derived.Test.YtepgjaknkjkpaaaDoorAmList
set_option linter.unusedVariables false
set_option linter.unusedSimpArgs false
namespace Go.Am

section
variable {α β : Type}
/-- A comparison without a state. -/
def pureC (c : α → α → Int) (_ : Unit) (x y : α) : Int × Unit := (c x y, ())

/-- What is greater: if neither of two steps is greater, the two together are not; if both are, they are. -/
structure GtOk (c : α → α → Int) : Prop where
  trans : ∀ x y z, 0 < c x y → 0 < c y z → 0 < c x z
  neg : ∀ x y z, ¬ 0 < c x y → ¬ 0 < c y z → ¬ 0 < c x z
  refl : ∀ x, ¬ 0 < c x x

def insL (c : α → α → Int) (y : α) : List α → List α
  | [] => [y]
  | x :: l => if 0 < c x y then y :: x :: l else x :: insL c y l
def isort (c : α → α → Int) (l : List α) : List α := l.foldl (fun o y => insL c y o) []

theorem mp_gt {c : α → α → Int} {x y : α} {a b : List α} (h : 0 < c x y) : (mergeL (pureC c) (x :: a) (y :: b) ()).1 = y :: (mergeL (pureC c) (x :: a) b ()).1 := by
  have h : 0 < (pureC c () x y).1 := h
  rw [mergeL_cons, if_pos h]
theorem mp_le {c : α → α → Int} {x y : α} {a b : List α} (h : ¬ 0 < c x y) : (mergeL (pureC c) (x :: a) (y :: b) ()).1 = x :: (mergeL (pureC c) a (y :: b) ()).1 := by
  have h : ¬ 0 < (pureC c () x y).1 := h
  rw [mergeL_cons, if_neg h]

theorem insL_merge {c : α → α → Int} (h : GtOk c) (y : α) : ∀ (n : Nat) (a b : List α), a.length + b.length = n → insL c y (mergeL (pureC c) a b ()).1 = (mergeL (pureC c) a (insL c y b) ()).1 := by
  intro n
  induction n with
  | zero =>
    intro a b hn
    have ha : a = [] := List.length_eq_zero_iff.1 (by omega)
    have hb : b = [] := List.length_eq_zero_iff.1 (by omega)
    subst ha; subst hb
    simp [mergeL_nil]
  | succ n ih =>
    intro a b hn
    cases a with
    | nil => simp [mergeL_nil]
    | cons x a =>
      cases b with
      | nil =>
        rw [mergeL_nil']
        have : ∀ a : List α, insL c y a = (mergeL (pureC c) a [y] ()).1 := by
          intro a
          induction a with
          | nil => simp [mergeL_nil, insL]
          | cons x a ih =>
            simp only [insL]
            split
            · rename_i hxy; rw [mp_gt hxy, mergeL_nil']
            · rename_i hxy; rw [mp_le hxy, ih]
        exact this (x :: a)
      | cons z b =>
        have i1 := ih (x :: a) b (by simp at hn ⊢; omega)
        have i2 := ih a (z :: b) (by simp at hn ⊢; omega)
        by_cases hxz : 0 < c x z
        · rw [mp_gt hxz]
          simp only [insL]
          by_cases hzy : 0 < c z y
          · rw [if_pos hzy, if_pos hzy, mp_gt (h.trans _ _ _ hxz hzy), mp_gt hxz]
          · rw [if_neg hzy, if_neg hzy, mp_gt hxz, ← i1]
        · rw [mp_le hxz]
          simp only [insL] at i2 ⊢
          by_cases hzy : 0 < c z y
          · rw [if_pos hzy] at i2 ⊢
            by_cases hxy : 0 < c x y
            · rw [if_pos hxy, mp_gt hxy, mp_le hxz]
            · rw [if_neg hxy, mp_le hxy, ← i2]
          · have hxy := h.neg _ _ _ hxz hzy
            rw [if_neg hzy] at i2 ⊢
            rw [if_neg hxy, mp_le hxz, ← i2]

theorem foldl_merge {c : α → α → Int} (h : GtOk c) (a : List α) : ∀ b o : List α, (b.foldl (fun o y => insL c y o) (mergeL (pureC c) a o ()).1) = (mergeL (pureC c) a (b.foldl (fun o y => insL c y o) o) ()).1
  | [], o => rfl
  | y :: b, o => by
    rw [List.foldl_cons, List.foldl_cons, insL_merge h y _ a o rfl, foldl_merge h a b]

theorem isort_append {c : α → α → Int} (h : GtOk c) (a b : List α) : isort c (a ++ b) = (mergeL (pureC c) (isort c a) (isort c b) ()).1 := by
  have := foldl_merge h (isort c a) b []
  rw [mergeL_nil'] at this
  unfold isort at this ⊢
  rw [List.foldl_append, this]

theorem sortN_isort {c : α → α → Int} (h : GtOk c) : ∀ (n : Nat) (l : List α), l.length ≤ n → (sortN (pureC c) n l ()).1 = isort c l
  | 0, l, hl => by
    have : l = [] := List.length_eq_zero_iff.1 (by omega)
    subst this; rfl
  | n + 1, l, hl => by
    unfold sortN
    split
    · rename_i h2
      match l, h2 with
      | [], _ => rfl
      | [x], _ => rfl
    · rename_i h2
      simp only
      rw [show (sortN (pureC c) n (l.take (l.length / 2)) ()).2 = () from rfl]
      rw [sortN_isort h n _ (by simp; omega), sortN_isort h n _ (by simp; omega), ← isort_append h, List.take_append_drop]

/-- Nothing greater stands ahead. -/
def Ord (c : α → α → Int) (l : List α) : Prop := l.Pairwise fun a b => ¬ 0 < c a b

theorem insL_perm (c : α → α → Int) (y : α) : ∀ l : List α, (insL c y l).Perm (y :: l)
  | [] => .refl _
  | x :: l => by
    unfold insL
    split
    · exact .refl _
    · exact ((insL_perm c y l).cons x).trans (.swap _ _ _)
theorem isort_fold_perm (c : α → α → Int) : ∀ l o : List α, (l.foldl (fun o y => insL c y o) o).Perm (o ++ l)
  | [], o => by simp
  | y :: l, o => by
    rw [List.foldl_cons]
    exact (isort_fold_perm c l _).trans (((insL_perm c y o).append_right l).trans (by simpa using (List.perm_middle (a := y) (l₁ := o) (l₂ := l)).symm))
theorem isort_perm (c : α → α → Int) (l : List α) : (isort c l).Perm l := by simpa [isort] using isort_fold_perm c l []

theorem insL_ord {c : α → α → Int} (h : GtOk c) (y : α) : ∀ {l : List α}, Ord c l → Ord c (insL c y l)
  | [], _ => by simp [insL, Ord]
  | x :: l, ho => by
    unfold Ord at ho ⊢
    rw [List.pairwise_cons] at ho
    unfold insL
    split
    · rename_i hxy
      have key : ∀ a ∈ x :: l, ¬ 0 < c y a := by
        intro a ha hya
        have hxa := h.trans _ _ _ hxy hya
        rcases List.mem_cons.1 ha with e | ha
        · subst e; exact h.refl _ hxa
        · exact ho.1 a ha hxa
      exact List.pairwise_cons.2 ⟨key, List.pairwise_cons.2 ho⟩
    · rename_i hxy
      refine List.pairwise_cons.2 ⟨?_, insL_ord h y ho.2⟩
      intro a ha
      rcases List.mem_cons.1 ((insL_perm c y l).mem_iff.1 ha) with e | ha
      · subst e; exact hxy
      · exact ho.1 a ha

theorem isort_fold_ord {c : α → α → Int} (h : GtOk c) : ∀ (l o : List α), Ord c o → Ord c (l.foldl (fun o y => insL c y o) o)
  | [], o, ho => ho
  | y :: l, o, ho => by rw [List.foldl_cons]; exact isort_fold_ord h l _ (insL_ord h y ho)
theorem isort_ord {c : α → α → Int} (h : GtOk c) (l : List α) : Ord c (isort c l) := isort_fold_ord h l [] (by simp [Ord])

theorem isort_snoc {c : α → α → Int} (l : List α) (y : α) : isort c (l ++ [y]) = insL c y (isort c l) := by simp [isort, List.foldl_append]

theorem insL_split {c : α → α → Int} {y : α} : ∀ {p q : List α}, (∀ a ∈ p, ¬ 0 < c a y) → (∀ a ∈ q, 0 < c a y) → insL c y (p ++ q) = p ++ y :: q
  | [], [], _, _ => rfl
  | [], x :: q, _, hq => by
    simp only [List.nil_append, insL]
    rw [if_pos (hq x (by simp))]
  | x :: p, q, hp, hq => by
    simp only [List.cons_append, insL]
    rw [if_neg (hp x (by simp)), insL_split (fun a ha => hp a (by simp [ha])) hq]

/-- An insertion that comes from the end. -/
theorem insL_at {c : α → α → Int} (h : GtOk c) {o : List α} (ho : Ord c o) {y : α} {k : Nat} (hk : k ≤ o.length) (h1 : ∀ a ∈ o.drop k, 0 < c a y) (h2 : ∀ (hk0 : 0 < k), ¬ 0 < c (o[k - 1]'(by omega)) y) :
    insL c y o = o.take k ++ y :: o.drop k := by
  have : insL c y (o.take k ++ o.drop k) = o.take k ++ y :: o.drop k := by
    refine insL_split ?_ h1
    intro a ha
    obtain ⟨i, hi, rfl⟩ := List.getElem_of_mem ha
    rw [List.length_take] at hi
    rw [List.getElem_take]
    have hk0 : 0 < k := by omega
    by_cases e : i = k - 1
    · subst e; exact h2 hk0
    · exact h.neg _ _ _ (List.pairwise_iff_getElem.1 ho i (k - 1) (by omega) (by omega) (by omega)) (h2 hk0)
  rwa [List.take_append_drop] at this

theorem insL_map {c : α → α → Int} {c' : β → β → Int} {f : α → β} (y : α) : ∀ {l : List α}, (∀ a ∈ l, c' (f a) (f y) = c a y) → (insL c y l).map f = insL c' (f y) (l.map f)
  | [], _ => rfl
  | x :: l, h => by
    simp only [List.map_cons, insL, h x (by simp)]
    split
    · simp
    · rw [List.map_cons, insL_map y fun a ha => h a (by simp [ha])]
theorem isort_fold_map {c : α → α → Int} {c' : β → β → Int} {f : α → β} {S : List α} (h : ∀ a ∈ S, ∀ b ∈ S, c' (f a) (f b) = c a b) : ∀ (l o : List α), (∀ a ∈ l, a ∈ S) → (∀ a ∈ o, a ∈ S) → (l.foldl (fun o y => insL c y o) o).map f = (l.map f).foldl (fun o y => insL c' y o) (o.map f)
  | [], o, _, _ => rfl
  | y :: l, o, hl, ho => by
    rw [List.foldl_cons, List.map_cons, List.foldl_cons, isort_fold_map h l _ (fun a ha => hl a (by simp [ha])), insL_map (c' := c') y fun a ha => h a (ho a ha) y (hl y (by simp))]
    intro a ha
    rcases List.mem_cons.1 ((insL_perm c y o).mem_iff.1 ha) with e | ha
    · subst e; exact hl _ (by simp)
    · exact ho a ha
theorem isort_map {c : α → α → Int} {c' : β → β → Int} {f : α → β} {l : List α} (h : ∀ a ∈ l, ∀ b ∈ l, c' (f a) (f b) = c a b) : (isort c l).map f = isort c' (l.map f) :=
  isort_fold_map h l [] (fun _ h => h) (by simp)

theorem isort_congr_fold {c c' : α → α → Int} (h : ∀ a b, (0 < c a b) ↔ (0 < c' a b)) : ∀ (l o : List α), l.foldl (fun o y => insL c y o) o = l.foldl (fun o y => insL c' y o) o
  | [], o => rfl
  | y :: l, o => by
    have : ∀ o : List α, insL c y o = insL c' y o := by
      intro o
      induction o with
      | nil => rfl
      | cons x o ih =>
        simp only [insL, ih]
        by_cases h1 : 0 < c x y
        · rw [if_pos h1, if_pos ((h _ _).1 h1)]
        · rw [if_neg h1, if_neg (fun h2 => h1 ((h _ _).2 h2))]
    rw [List.foldl_cons, List.foldl_cons, this, isort_congr_fold h l]
theorem isort_congr {c c' : α → α → Int} (h : ∀ a b, (0 < c a b) ↔ (0 < c' a b)) (l : List α) : isort c l = isort c' l := isort_congr_fold h l []
end
end Go.Am
