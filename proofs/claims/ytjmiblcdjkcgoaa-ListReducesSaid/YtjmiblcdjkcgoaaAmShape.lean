/- What an argument of a shape is: a number, a text, a list of numbers, of texts, of lists. -/
import Derived.Test.YtjmiblcdjkcgoaaAmRow
set_option linter.unusedVariables false
set_option linter.unusedSimpArgs false
namespace Go.Am
section
variable {α : Type} {enc : α → AV} {sz : Nat}

theorem Sl.view {H : AHeap} {a : AV} : ∀ {l : List (List AV)}, Sl AV.agg sz H a l → (∀ x ∈ l, ∃ y : α, x = (enc y).cells) → ∃ l' : List α, Sl enc sz H a l' ∧ l'.length = l.length ∧ l = l'.map fun y => (enc y).cells := by
  intro l h hx
  have : ∃ l' : List α, l = l'.map fun y => (enc y).cells := by
    clear h
    induction l with
    | nil => exact ⟨[], rfl⟩
    | cons x l ih =>
      obtain ⟨y, hy⟩ := hx x (by simp)
      obtain ⟨l', hl⟩ := ih fun z hz => hx z (by simp [hz])
      exact ⟨y :: l', by rw [hl, hy]; rfl⟩
  obtain ⟨l', rfl⟩ := this
  refine ⟨l', ?_, by simp, rfl⟩
  obtain ⟨h0, p, sv, cap, rfl, h1, h2⟩ := h
  simp only [List.length_map] at h1 h2
  refine ⟨fun y hy => h0 _ (List.mem_map_of_mem hy), p, sv, cap, by simp, h1, ?_⟩
  cases p with
  | none => simpa using h2
  | some q =>
    obtain ⟨b, off⟩ := q
    obtain ⟨h3, f, cs, h4, h5, h6⟩ := h2
    refine ⟨h3, f, cs, h4, h5, ?_⟩
    rw [h6, List.flatMap_map]
    rfl
end

theorem GoodV.int {H : AHeap} {k : IntKind} {a : AV} (h : GoodV H (.int k) a) : ∃ n, a = .int k n ∧ (Lit.int k n).wf = true := by
  have h : Good H (.int k) [a] := h
  obtain ⟨n, h1, h2⟩ := h
  cases h1
  exact ⟨n, rfl, h2⟩
theorem GoodV.bool {H : AHeap} {a : AV} (h : GoodV H .bool a) : ∃ b, a = .bool b := by
  have h : Good H .bool [a] := h
  obtain ⟨n, h1⟩ := h
  cases h1
  exact ⟨n, rfl⟩
theorem GoodV.str {H : AHeap} {a : AV} (h : GoodV H .str a) : ∃ s : List UInt8, a = .str s ∧ s.length ≤ maxLen := by
  have h : Good H .str [a] := h
  obtain ⟨n, h1, h2⟩ := h
  cases h1
  exact ⟨n, rfl, h2⟩
theorem GoodV.ints {H : AHeap} {a : AV} (h : GoodV H (.slice (.int .i64)) a) : ∃ l : List Int, Sl encI 1 H a l ∧ l.length ≤ maxLen ∧ ∀ n ∈ l, (Lit.int .i64 n).wf = true := by
  have h : Good H (.slice (.int .i64)) [a] := h
  obtain ⟨a', l, h1, h2, h3, h4⟩ := h
  cases h1
  obtain ⟨l', q1, q2, q3⟩ := h3.view (enc := encI) (fun x hx => by obtain ⟨n, e, _⟩ := h4 x hx; exact ⟨n, e⟩)
  refine ⟨l', q1, by omega, fun n hn => ?_⟩
  obtain ⟨m, e, hw⟩ := h4 [encI n] (by rw [q3]; exact List.mem_map_of_mem (f := fun y => (encI y).cells) hn)
  cases e
  exact hw
theorem GoodV.strs {H : AHeap} {a : AV} (h : GoodV H (.slice .str) a) : ∃ l : List (List UInt8), Sl encS 1 H a l ∧ l.length ≤ maxLen ∧ ∀ s ∈ l, s.length ≤ maxLen := by
  have h : Good H (.slice .str) [a] := h
  obtain ⟨a', l, h1, h2, h3, h4⟩ := h
  cases h1
  obtain ⟨l', q1, q2, q3⟩ := h3.view (enc := encS) (fun x hx => by obtain ⟨n, e, _⟩ := h4 x hx; exact ⟨n, e⟩)
  refine ⟨l', q1, by omega, fun n hn => ?_⟩
  obtain ⟨m, e, hw⟩ := h4 [encS n] (by rw [q3]; exact List.mem_map_of_mem (f := fun y => (encS y).cells) hn)
  cases e
  exact hw
theorem GoodV.bools {H : AHeap} {a : AV} (h : GoodV H (.slice .bool) a) : ∃ l : List Bool, Sl encB 1 H a l ∧ l.length ≤ maxLen := by
  have h : Good H (.slice .bool) [a] := h
  obtain ⟨a', l, h1, h2, h3, h4⟩ := h
  cases h1
  obtain ⟨l', q1, q2, q3⟩ := h3.view (enc := encB) (fun x hx => by obtain ⟨n, e⟩ := h4 x hx; exact ⟨n, e⟩)
  exact ⟨l', q1, by omega⟩

/-! ### Tables -/
def look (l : List (Nat × AFunc)) (g : Nat) : Option AFunc :=
  match l with
  | [] => none
  | (k, ir) :: r => if g = k then some ir else look r g

theorem look_lt {b g : Nat} : ∀ {l : List (Nat × AFunc)} {ir : AFunc}, (l.all fun p => decide (p.1 < b)) = true → look l g = some ir → g < b
  | [], _, _, h => by simp [look] at h
  | (k, ir') :: r, ir, ha, h => by
    unfold look at h
    simp at ha
    split at h
    · rename_i e; subst e; exact ha.1
    · exact look_lt (l := r) (by simpa using ha.2) h

/-- The functions of a program, one by one. -/
def Linked (P : Program) (G : Nat → Nat) (l : List (Nat × AFunc)) : Nat → List Nat → Prop
  | _, [] => True
  | f, g :: gs => (∀ ir, look l g = some ir → ∃ fn, P.funcs[f]? = some fn ∧ compileFn P G fn = some ir) ∧ Linked P G l (f + 1) gs

theorem Linked.no {P : Program} {G : Nat → Nat} {l : List (Nat × AFunc)} {f g : Nat} {gs : List Nat} (h : look l g = none) (k : Linked P G l (f + 1) gs) : Linked P G l f (g :: gs) :=
  ⟨fun ir hi => by rw [h] at hi; (cases hi), k⟩
theorem Linked.yes {P : Program} {G : Nat → Nat} {l : List (Nat × AFunc)} {f g : Nat} {gs : List Nat} {ir : AFunc} {fn : Func} (h : look l g = some ir) (h1 : P.funcs[f]? = some fn) (h2 : compileFn P G fn = some ir) (k : Linked P G l (f + 1) gs) : Linked P G l f (g :: gs) :=
  ⟨fun ir' hi => by rw [h] at hi; cases hi; exact ⟨fn, h1, h2⟩, k⟩

theorem Linked.at_ {P : Program} {G : Nat → Nat} {l : List (Nat × AFunc)} : ∀ {gs : List Nat} {f : Nat}, Linked P G l f gs → ∀ i g, gs[i]? = some g → ∀ ir, look l g = some ir → ∃ fn, P.funcs[f + i]? = some fn ∧ compileFn P G fn = some ir
  | [], _, _, i, g, h, _, _ => by simp at h
  | x :: gs, f, ⟨h1, h2⟩, i, g, h, ir, hi => by
    cases i with
    | zero => simp at h; subst h; exact h1 ir hi
    | succ i =>
      have := h2.at_ i g (by simpa using h) ir hi
      rwa [show f + 1 + i = f + (i + 1) by omega] at this

def gOf (gl : List Nat) (f : Nat) : Nat := gl.getD f (1000000 + f)
def tabOf (l : List (Nat × AFunc)) (p : Nat → Option (List AV → AHeap → Option (AV × AHeap))) : Tab := ⟨look l, p⟩

theorem link_of {P : Program} {gl : List Nat} {l : List (Nat × AFunc)} {p : Nat → Option (List AV → AHeap → Option (AV × AHeap))} (hm : P.follows .mixedOrders = true) (hb : (l.all fun p => decide (p.1 < 1000000)) = true) (h : Linked P (gOf gl) l 0 gl)
    (hp : ∀ f q, p (gOf gl f) = some q → ∀ args H v H', q args H = some (v, H') → ∀ B w0 E w us, HRel (gOf gl) B w0 E H w → VRs (gOf gl) H.next E args us → Back P (gOf gl) B w0 E H w (callFunc f us.toArray) v H') :
    Link P (gOf gl) (tabOf l p).fn (tabOf l p).prim := by
  refine ⟨hm, fun f ir hi => ?_, hp⟩
  have hi : look l (gOf gl f) = some ir := hi
  have hlt := look_lt hb hi
  unfold gOf at hi hlt
  cases hg : gl[f]? with
  | none => simp [List.getD, hg] at hlt; omega
  | some g =>
    simp [List.getD, hg] at hi
    have := h.at_ f g hg ir hi
    rwa [Nat.zero_add] at this
end Go.Am
