/- Contracts: what the methods that look along references begin with: strong, numbers, set, Clone. -/
import Derived.Test.YtpdedphkjkhddaaAmHeapV
import Derived.Test.YtpdedphkjkhddaaAmRngL
set_option linter.unusedVariables false
set_option linter.unusedSimpArgs false
namespace Go.Am
variable {T : Tab}
/-- To which cells a cell refers strongly. -/
def strongs (fs : List Fld) : List Int := (fs.filter fun x => x.is && !x.weak).map (·.to)
section
variable {k : Nat} {tg : Tags} {H : AHeap} {b : Nat} {lk : Int} {S : Hp} {fb m : Nat} {cv nv : AV} {fc fn : Option Nat} {xs : List (AV × Cel)} {ff : Nat → Option Nat}
end
end Go.Am

/- Contracts: what some cells lead to: from. -/
set_option linter.unusedVariables false
set_option linter.unusedSimpArgs false
namespace Go.Am
variable {T : Tab}
/-! ### What leads where -/
inductive Reach (cs : List Cel) : Int → Int → Prop
  | refl (a : Int) : Reach cs a a
  | step {a b c : Int} : Reach cs a b → c ∈ strongs (nth cs b).fs → Reach cs a c
/-- What holds on the way: bs has been seen, todo is to be looked at. -/
structure Way (cs : List Cel) (l : List Int) (bs : List Bool) (todo : List Int) : Prop where
  len : bs.length = cs.length
  in_ : ∀ a ∈ todo, 0 ≤ a ∧ a < cs.length
  start : ∀ a ∈ l, nth bs a = true ∨ a ∈ todo
  next : ∀ a : Int, 0 ≤ a → a < cs.length → nth bs a = true → ∀ t ∈ strongs (nth cs a).fs, nth bs t = true ∨ t ∈ todo
  sound : ∀ a : Int, 0 ≤ a → a < cs.length → (nth bs a = true ∨ a ∈ todo) → ∃ r ∈ l, Reach cs r a
theorem Way.done {cs : List Cel} {l : List Int} {bs : List Bool} (h : Way cs l bs []) (hl : ∀ a ∈ l, 0 ≤ a ∧ a < cs.length) (ht : ∀ c ∈ cs, ∀ t ∈ strongs c.fs, 0 ≤ t ∧ t < cs.length) {a : Int} (a0 : 0 ≤ a) (a1 : a < cs.length) : nth bs a = true ↔ ∃ r ∈ l, Reach cs r a := by
  constructor
  · intro hb; exact h.sound a a0 a1 (.inl hb)
  · rintro ⟨r, hr, hx⟩
    have : 0 ≤ a ∧ a < cs.length ∧ nth bs a = true := by
      clear a0 a1
      induction hx with
      | refl => exact ⟨(hl r hr).1, (hl r hr).2, (h.start r hr).resolve_right (by simp)⟩
      | step hab hc ih =>
        obtain ⟨i0, i1, i2⟩ := ih
        obtain ⟨t0, t1⟩ := ht _ (nth_mem i0 i1) _ hc
        exact ⟨t0, t1, (h.next _ i0 i1 i2 _ hc).resolve_right (by simp)⟩
    exact this.2.2
/-- One that was seen already. -/
theorem Way.skip {cs : List Cel} {l : List Int} {bs : List Bool} {todo : List Int} {a : Int} (h : Way cs l bs (todo ++ [a])) (hb : nth bs a = true) : Way cs l bs todo := by
  refine ⟨h.len, fun x hx => h.in_ x (by simp [hx]), fun x hx => ?_, fun x x0 x1 hx t ht => ?_, fun x x0 x1 hx => h.sound x x0 x1 (hx.imp id fun h => by simp [h])⟩
  · rcases h.start x hx with q | q
    · exact .inl q
    · rcases List.mem_append.1 q with q | q
      · exact .inr q
      · rw [List.mem_singleton] at q; subst q; exact .inl hb
  · rcases h.next x x0 x1 hx t ht with q | q
    · exact .inl q
    · rcases List.mem_append.1 q with q | q
      · exact .inr q
      · rw [List.mem_singleton] at q; subst q; exact .inl hb
/-- A new one. -/
theorem Way.look {cs : List Cel} {l : List Int} {bs : List Bool} {todo : List Int} {a : Int} (h : Way cs l bs (todo ++ [a])) (ht : ∀ c ∈ cs, ∀ t ∈ strongs c.fs, 0 ≤ t ∧ t < cs.length) : Way cs l (bs.set a.toNat true) (todo ++ strongs (nth cs a).fs) := by
  obtain ⟨a0, a1⟩ := h.in_ a (by simp)
  have hs : ∀ x : Int, 0 ≤ x → nth (bs.set a.toNat true) x = if a = x then true else nth bs x := fun x hx => nth_set a0 (by rw [h.len]; exact a1) hx
  have up : ∀ x : Int, 0 ≤ x → (nth bs x = true ∨ x ∈ todo ++ [a]) → nth (bs.set a.toNat true) x = true ∨ x ∈ todo ++ strongs (nth cs a).fs := by
    intro x x0 hx
    rw [hs x x0]
    rcases hx with q | q
    · left; split <;> simp [q]
    · rcases List.mem_append.1 q with q | q
      · right; simp [q]
      · rw [List.mem_singleton] at q; subst q; left; simp
  obtain ⟨r, hr, hra⟩ := h.sound a a0 a1 (.inr (by simp))
  have hnn : ∀ x ∈ l, 0 ≤ x ∨ nth bs x = true := fun x hx => by
    rcases h.start x hx with q | q
    · exact .inr q
    · exact .inl (h.in_ x q).1
  refine ⟨by simp [h.len], fun x hx => ?_, fun x hx => ?_, fun x x0 x1 hx t htx => ?_, fun x x0 x1 hx => ?_⟩
  · rcases List.mem_append.1 hx with q | q
    · exact h.in_ x (by simp [q])
    · exact ht _ (nth_mem a0 a1) x q
  · by_cases x0 : 0 ≤ x
    · exact up x x0 (h.start x hx)
    · rcases h.start x hx with q | q
      · left
        have e : nth (bs.set a.toNat true) x = nth (bs.set a.toNat true) 0 := by unfold nth; rw [show x.toNat = (0 : Int).toNat by omega]
        have e2 : nth bs x = nth bs 0 := by unfold nth; rw [show x.toNat = (0 : Int).toNat by omega]
        rw [e, hs 0 (by omega)]
        split
        · rfl
        · rw [← e2]; exact q
      · exact absurd (h.in_ x q).1 x0
  · rw [hs x x0] at hx
    have t0 := (ht _ (nth_mem x0 x1) t htx).1
    by_cases e : a = x
    · subst e; right; simp [htx]
    · rw [if_neg e] at hx
      exact up t t0 (h.next x x0 x1 hx t htx)
  · rw [hs x x0] at hx
    by_cases e : a = x
    · subst e; exact ⟨r, hr, hra⟩
    · rw [if_neg e] at hx
      rcases hx with q | q
      · exact h.sound x x0 x1 (.inl q)
      · rcases List.mem_append.1 q with q | q
        · exact h.sound x x0 x1 (.inr (by simp [q]))
        · exact ⟨r, hr, hra.step q⟩
section
variable {k : Nat} {tg : Tags} {H : AHeap} {b : Nat} {lk : Int} {S : Hp} {fb m : Nat} {cv nv : AV} {fc fn : Option Nat} {xs : List (AV × Cel)} {ff : Nat → Option Nat}
end
end Go.Am

/- Contracts: reached, Reached. -/
set_option linter.unusedVariables false
set_option linter.unusedSimpArgs false
namespace Go.Am
variable {T : Tab}
section
variable {k : Nat} {tg : Tags} {H : AHeap} {b : Nat} {lk : Int} {S : Hp} {fb m : Nat} {cv nv : AV} {fc fn : Option Nat} {xs : List (AV × Cel)} {ff : Nat → Option Nat}
theorem Made.free {tg : Tags} {H K : AHeap} {n : Nat} {v : AV} {l : List Int} (h : Made encI 1 n K v l) (hk : TagOk tg H) (hn : H.next ≤ n) : Free tg K n v l := by
  obtain ⟨f, h1, h2⟩ := h
  exact ⟨f, h1, fun g hg => ⟨h2 g hg, hk g (Nat.le_trans hn (h2 g hg))⟩⟩
theorem Free.mono {tg : Tags} {K : AHeap} {n m : Nat} {v : AV} {l : List Int} (h : Free tg K n v l) (hm : m ≤ n) : Free tg K m v l := by
  obtain ⟨f, h1, h2⟩ := h
  exact ⟨f, h1, fun g hg => ⟨Nat.le_trans hm (h2 g hg).1, (h2 g hg).2⟩⟩
end
end Go.Am

/- The plain law of the reference's leads. -/
set_option linter.unusedVariables false
set_option linter.unusedSimpArgs false
namespace Go.Am
/-- What a set leads to; first: in one step at least. -/
def From (cs : List Cel) (fr : List Bool) (first : Bool) (a : Int) : Prop :=
  ∃ r : Int, 0 ≤ r ∧ r < cs.length ∧ nth fr r = true ∧ if first = true then ∃ c ∈ strongs (nth cs r).fs, Reach cs c a else Reach cs r a
theorem From.step {cs : List Cel} {fr : List Bool} {first : Bool} {a t : Int} (h : From cs fr first a) (ht : t ∈ strongs (nth cs a).fs) : From cs fr first t := by
  obtain ⟨r, r0, r1, hr, hx⟩ := h
  refine ⟨r, r0, r1, hr, ?_⟩
  cases first with
  | true =>
    simp only [if_true] at hx ⊢
    obtain ⟨c, hc, hx⟩ := hx
    exact ⟨c, hc, hx.step ht⟩
  | false => simpa using (show Reach cs r a by simpa using hx).step ht
theorem From.one {cs : List Cel} {fr : List Bool} {first : Bool} {i t : Int} (i0 : 0 ≤ i) (i1 : i < cs.length) (hi : nth fr i = true) (ht : t ∈ strongs (nth cs i).fs) : From cs fr first t := by
  refine ⟨i, i0, i1, hi, ?_⟩
  cases first with
  | true => simp only [if_true]; exact ⟨t, ht, .refl t⟩
  | false => simpa using (Reach.refl (cs := cs) i).step ht
structure Lead (cs : List Cel) (fr : List Bool) (first : Bool) (bs : List Bool) : Prop where
  len : bs.length = cs.length
  sound : ∀ a : Int, 0 ≤ a → a < cs.length → nth bs a = true → From cs fr first a
  has : first = false → ∀ a : Int, 0 ≤ a → a < cs.length → nth fr a = true → nth bs a = true
theorem Lead.mark {cs : List Cel} {fr : List Bool} {first : Bool} {bs : List Bool} (h : Lead cs fr first bs) {i t : Int} (i0 : 0 ≤ i) (i1 : i < cs.length) (hi : nth fr i = true ∨ nth bs i = true) (ht : t ∈ strongs (nth cs i).fs) (t0 : 0 ≤ t) (t1 : t < cs.length) : Lead cs fr first (bs.set t.toNat true) := by
  have hs : ∀ x : Int, 0 ≤ x → nth (bs.set t.toNat true) x = if t = x then true else nth bs x := fun x hx => nth_set t0 (by rw [h.len]; exact t1) hx
  refine ⟨by simp [h.len], fun a a0 a1 ha => ?_, fun hf a a0 a1 ha => ?_⟩
  · rw [hs a a0] at ha
    by_cases e : t = a
    · subst e
      rcases hi with q | q
      · exact From.one i0 i1 q ht
      · exact (h.sound i i0 i1 q).step ht
    · rw [if_neg e] at ha; exact h.sound a a0 a1 ha
  · rw [hs a a0]
    split
    · rfl
    · exact h.has hf a a0 a1 ha
theorem Lead.done {cs : List Cel} {fr : List Bool} {first : Bool} {bs : List Bool} (h : Lead cs fr first bs) (ht : ∀ c ∈ cs, ∀ t ∈ strongs c.fs, 0 ≤ t ∧ t < cs.length)
    (hc : ∀ i : Int, 0 ≤ i → i < cs.length → nth fr i = true ∨ nth bs i = true → ∀ t ∈ strongs (nth cs i).fs, nth bs t = true) {a : Int} (a0 : 0 ≤ a) (a1 : a < cs.length) : nth bs a = true ↔ From cs fr first a := by
  refine ⟨h.sound a a0 a1, ?_⟩
  rintro ⟨r, r0, r1, hr, hx⟩
  have reach : ∀ c a : Int, 0 ≤ c → c < cs.length → nth bs c = true → Reach cs c a → 0 ≤ a ∧ a < cs.length ∧ nth bs a = true := by
    intro c a c0 c1 hb hx
    induction hx with
    | refl => exact ⟨c0, c1, hb⟩
    | step hab hcc ih =>
      obtain ⟨i0, i1, i2⟩ := ih
      obtain ⟨t0, t1⟩ := ht _ (nth_mem i0 i1) _ hcc
      exact ⟨t0, t1, hc _ i0 i1 (.inr i2) _ hcc⟩
  cases first with
  | true =>
    simp only [if_true] at hx
    obtain ⟨c, hcc, hx⟩ := hx
    obtain ⟨t0, t1⟩ := ht _ (nth_mem r0 r1) _ hcc
    exact (reach c a t0 t1 (hc r r0 r1 (.inl hr) c hcc) hx).2.2
  | false => exact (reach r a r0 r1 (h.has rfl r r0 r1 hr) (by simpa using hx)).2.2
end Go.Am
