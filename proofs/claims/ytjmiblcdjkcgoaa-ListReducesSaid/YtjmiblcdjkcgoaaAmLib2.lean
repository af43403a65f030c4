/- More rules: slices written out in the text, one value appended, variables that lie in a row of their own. -/
import Derived.Test.YtjmiblcdjkcgoaaAmLib
set_option linter.unusedVariables false
set_option linter.unusedSimpArgs false
namespace Go.Am

@[simp] theorem wsem0_box {v : AV} {H : AHeap} : wsem0 .box [v] H = if v.cells.all AV.cell = true then some (.ptr (some (H.next, 0)), H.new v.cells) else none := rfl
theorem wsem0_bsl1 {v z : AV} {H : AHeap} (h : v.cell = true) : wsem0 (.bsl 1 1 [z] [(0, 1)]) [v] H = some (.slc (some (H.next, 0)) 1 1 (some 1), H.new [v]) := by
  have hc : v.cells = [v] := by cases v <;> simp_all [AV.cells, AV.cell]
  simp [wsem0, wsem, fill, hc, h, splice]
@[simp] theorem wsem0_bsl0 {n : Nat} {H : AHeap} : wsem0 (.bsl (n + 1) 0 [] []) [] H = some (.slc (some (H.next, 0)) (n + 1) 0 (some 0), H.new []) := by
  simp [wsem0, wsem, fill]
theorem wsem0_st {n p q : Nat} {v : AV} {H : AHeap} : wsem0 (.st n) [.ptr (some (p, q)), v] H = if v.cells.length = n then (match H.st p q v.cells with | some H' => some (.undef, H') | none => none) else none := rfl
def AHeap.newMap (H : AHeap) : AHeap := { H with next := H.next + 1, blk := upd H.blk H.next (some (.map true [])) }
@[simp] theorem wsem0_mkM {H : AHeap} : wsem0 .mkM [] H = some (.map (some H.next), H.newMap) := rfl
theorem wsem0_bsl3 {a b c z1 z2 z3 : AV} {H : AHeap} (ha : a.cell = true) (hb : b.cell = true) (hc : c.cell = true) : wsem0 (.bsl 1 3 [z1, z2, z3] [(0, 1), (1, 1), (2, 1)]) [a, b, c] H = some (.slc (some (H.next, 0)) 1 3 (some 3), H.new [a, b, c]) := by
  have h1 : a.cells = [a] := by cases a <;> simp_all [AV.cells, AV.cell]
  have h2 : b.cells = [b] := by cases b <;> simp_all [AV.cells, AV.cell]
  have h3 : c.cells = [c] := by cases c <;> simp_all [AV.cells, AV.cell]
  simp [wsem0, wsem, fill, h1, h2, h3, ha, hb, hc, splice]

section
variable {α : Type} {enc : α → AV} {sz : Nat}

theorem Sl.form {H : AHeap} {v : AV} {l : List α} (h : Sl enc sz H v l) : v.cell = true ∧ v.cells = [v] := by
  obtain ⟨_, p, sv, cap, rfl, _⟩ := h
  exact ⟨rfl, rfl⟩

/-- What was made since. -/
def Made (enc : α → AV) (sz : Nat) (n : Nat) (H : AHeap) (v : AV) (l : List α) : Prop := ∃ f, Own enc sz H v l f ∧ ∀ g, f = some g → n ≤ g

theorem Made.sl {n : Nat} {H : AHeap} {v : AV} {l : List α} (h : Made enc sz n H v l) : Sl enc sz H v l := h.choose_spec.1.1
theorem Made.nil {n z : Nat} {H : AHeap} : Made enc sz n H (.slc none z 0 none) [] := ⟨none, Own.nil (by simp), by simp⟩
theorem Made.mono {n m : Nat} {H : AHeap} {v : AV} {l : List α} (h : Made enc sz n H v l) (hm : m ≤ n) : Made enc sz m H v l := by
  obtain ⟨f, h1, h2⟩ := h
  exact ⟨f, h1, fun g hg => Nat.le_trans hm (h2 g hg)⟩
theorem Made.keeps {D : Nat → Prop} {n : Nat} {H H' : AHeap} {v : AV} {l : List α} (h : Made enc sz n H v l) (hw : WF H) (k : Keeps D H H') (hd : ∀ g, n ≤ g → g < H.next → ¬D g) : Made enc sz n H' v l := by
  obtain ⟨f, h1, h2⟩ := h
  refine ⟨f, h1.keeps hw k fun g hg => ?_, h2⟩
  subst hg
  exact hd g (h2 g rfl) (h1.2.lt hw)
theorem Made.fr {n : Nat} {H H' : AHeap} {v : AV} {l : List α} (h : Made enc sz n H v l) (hw : WF H) (k : Fr H H') : Made enc sz n H' v l :=
  h.keeps hw k.keeps fun g _ h2 => by omega

theorem push1 [Cell enc] {H : AHeap} (hw : WF H) {v : AV} {l : List α} {f : Option Nat} {bytes : Nat} (ho : Own enc 1 H v l f) (x : α) (hb : (l.length + 1) * bytes ≤ 2 ^ 46) (hb2 : l.length + 1 ≤ 2 ^ 60) :
    ∃ v' H' f', wsem0 (.app 1 bytes) [v, .slc (some (H.next, 0)) 1 1 (some 1)] (H.new [enc x]) = some (v', H') ∧ WF H' ∧ Own enc 1 H' v' (l ++ [x]) f' ∧ Keeps (fun g => f = some g) H H' ∧ (∀ g, f' = some g → f = some g ∨ H.next ≤ g) := by
  have := app_push (bytes := bytes) (ys := [x]) hw ho (by simp) (Cell.len _) (Cell.all _) (by simpa using hb) (by simpa using hb2)
  rw [Cell.flat] at this
  simpa using this

theorem push1_made [Cell enc] {H0 H : AHeap} (hf : Fr H0 H) {v : AV} {l : List α} {bytes : Nat} (ho : Made enc 1 H0.next H v l) (x : α) (hb : (l.length + 1) * bytes ≤ 2 ^ 46) (hb2 : l.length + 1 ≤ 2 ^ 60) :
    ∃ v' H', wsem0 (.app 1 bytes) [v, .slc (some (H.next, 0)) 1 1 (some 1)] (H.new [enc x]) = some (v', H') ∧ Fr H0 H' ∧ Made enc 1 H0.next H' v' (l ++ [x]) := by
  obtain ⟨f, h1, h2⟩ := ho
  obtain ⟨v', H', f', q1, q2, q3, q4, q5⟩ := push1 (bytes := bytes) hf.wf h1 x hb hb2
  refine ⟨v', H', q1, hf.step q2 q4 h2, f', q3, fun g hg => ?_⟩
  rcases q5 g hg with h | h
  · exact h2 g h
  · exact Nat.le_trans hf.next h

theorem app_made {H0 H : AHeap} (hf : Fr H0 H) {v x : AV} {l ys : List α} {bytes : Nat} (ho : Made enc sz H0.next H v l) (hx : Sl enc sz H x ys) (hs : sz ≠ 0) (hc : ∀ y ∈ ys, (enc y).cells.all AV.cell = true)
    (hb : (l.length + ys.length) * bytes ≤ 2 ^ 46) (hb2 : l.length + ys.length ≤ 2 ^ 60) :
    ∃ v' H', wsem0 (.app sz bytes) [v, x] H = some (v', H') ∧ Fr H0 H' ∧ Made enc sz H0.next H' v' (l ++ ys) := by
  obtain ⟨f, h1, h2⟩ := ho
  obtain ⟨v', H', f', q1, q2, q3, q4, q5⟩ := app_own (bytes := bytes) hf.wf h1 hx hs hc hb hb2
  refine ⟨v', H', q1, hf.step q2 q4 h2, f', q3, fun g hg => ?_⟩
  rcases q5 g hg with h | h
  · exact h2 g h
  · exact Nat.le_trans hf.next h
end

/-! ### With variables that others may write -/
section
variable {α : Type} {enc : α → AV} {sz : Nat}

theorem push_n [Cell enc] {n : Nat} {H : AHeap} (hw : WF H) (hn : n ≤ H.next) {v : AV} {l : List α} {bytes : Nat} (ho : Made enc 1 n H v l) (x : α) (hb : (l.length + 1) * bytes ≤ 2 ^ 46) (hb2 : l.length + 1 ≤ 2 ^ 60) :
    ∃ v' H', wsem0 (.app 1 bytes) [v, .slc (some (H.next, 0)) 1 1 (some 1)] (H.new [enc x]) = some (v', H') ∧ WF H' ∧ Keeps (n ≤ ·) H H' ∧ Made enc 1 n H' v' (l ++ [x]) := by
  obtain ⟨f, h1, h2⟩ := ho
  obtain ⟨v', H', f', q1, q2, q3, q4, q5⟩ := push1 (bytes := bytes) hw h1 x hb hb2
  refine ⟨v', H', q1, q2, q4.mono h2, f', q3, fun g hg => ?_⟩
  rcases q5 g hg with h | h
  · exact h2 g h
  · exact Nat.le_trans hn h

theorem app_n {n : Nat} {H : AHeap} (hw : WF H) (hn : n ≤ H.next) {v x : AV} {l ys : List α} {bytes : Nat} (ho : Made enc sz n H v l) (hx : Sl enc sz H x ys) (hs : sz ≠ 0) (hc : ∀ y ∈ ys, (enc y).cells.all AV.cell = true)
    (hb : (l.length + ys.length) * bytes ≤ 2 ^ 46) (hb2 : l.length + ys.length ≤ 2 ^ 60) :
    ∃ v' H', wsem0 (.app sz bytes) [v, x] H = some (v', H') ∧ WF H' ∧ Keeps (n ≤ ·) H H' ∧ Made enc sz n H' v' (l ++ ys) := by
  obtain ⟨f, h1, h2⟩ := ho
  obtain ⟨v', H', f', q1, q2, q3, q4, q5⟩ := app_own (bytes := bytes) hw h1 hx hs hc hb hb2
  refine ⟨v', H', q1, q2, q4.mono h2, f', q3, fun g hg => ?_⟩
  rcases q5 g hg with h | h
  · exact h2 g h
  · exact Nat.le_trans hn h

/-- A slice that is read, of no family in D. -/
def Rd (D : Nat → Prop) (enc : α → AV) (sz : Nat) (H : AHeap) (v : AV) (l : List α) : Prop :=
  Sl enc sz H v l ∧ ∀ b off sv n c f cs, v = .slc (some (b, off)) sv n c → H.row b = some (f, cs) → ¬D f

theorem Rd.sl {D : Nat → Prop} {H : AHeap} {v : AV} {l : List α} (h : Rd D enc sz H v l) : Sl enc sz H v l := h.1
theorem Rd.keeps {D : Nat → Prop} {H H' : AHeap} {v : AV} {l : List α} (h : Rd D enc sz H v l) (hw : WF H) (k : Keeps (fun g => D g ∨ H.next ≤ g) H H') : Rd D enc sz H' v l := by
  obtain ⟨h1, h2⟩ := h
  have h3 : ∀ b off sv n c f cs, v = .slc (some (b, off)) sv n c → H.row b = some (f, cs) → ¬(D f ∨ H.next ≤ f) := by
    intro b off sv n c f cs e hr hd
    rcases hd with hd | hd
    · exact h2 b off sv n c f cs e hr hd
    · have := hw.row_fam hr; omega
  refine ⟨h1.keeps k h3, ?_⟩
  intro b off sv n c f cs e hr
  subst e
  obtain ⟨_, p, sv', cap', e, _, h5⟩ := h1
  cases e
  obtain ⟨_, f', cs', h6, _⟩ := h5
  have := k.row _ _ _ h6 (h3 b off sv _ c f' cs' rfl h6)
  rw [hr] at this
  cases this
  exact h2 b off sv _ c _ _ rfl h6
theorem Rd.keepsD {D : Nat → Prop} {H H' : AHeap} {v : AV} {l : List α} (h : Rd D enc sz H v l) (k : Keeps D H H') : Rd D enc sz H' v l := by
  obtain ⟨h1, h2⟩ := h
  refine ⟨h1.keeps k h2, ?_⟩
  intro b off sv n c f cs e hr
  subst e
  obtain ⟨_, p, sv', cap', e, _, h5⟩ := h1
  cases e
  obtain ⟨_, f', cs', h6, _⟩ := h5
  have := k.row _ _ _ h6 (h2 b off sv _ c f' cs' rfl h6)
  rw [hr] at this
  cases this
  exact h2 b off sv _ c _ _ rfl h6
theorem Sl.rd {H : AHeap} {v : AV} {l : List α} (h : Sl enc sz H v l) (hw : WF H) : Rd (fun g => H.next ≤ g) enc sz H v l :=
  ⟨h, fun b off sv n c f cs e hr hd => by have := hw.row_fam hr; omega⟩
theorem Rd.mono {D D' : Nat → Prop} {H : AHeap} {v : AV} {l : List α} (h : Rd D enc sz H v l) (k : ∀ g, D' g → D g) : Rd D' enc sz H v l :=
  ⟨h.1, fun b off sv n c f cs e hr hd => h.2 b off sv n c f cs e hr (k f hd)⟩
theorem Made.rd {D : Nat → Prop} {n : Nat} {H : AHeap} {v : AV} {l : List α} (h : Made enc sz n H v l) (hd : ∀ g, D g → g < n) : Rd D enc sz H v l := by
  obtain ⟨f, h1, h2⟩ := h
  refine ⟨h1.1, ?_⟩
  intro b off sv m c g cs e hr hg
  subst e
  obtain ⟨g', cs', q1, q2, _⟩ := h1.2
  rw [hr] at q1
  cases q1
  have := h2 _ q2
  have := hd _ hg
  omega
theorem Rd.cut {D : Nat → Prop} {H : AHeap} {v : AV} {l : List α} (h : Rd D enc sz H v l) (i j : Nat) (hij : i ≤ j) (hj : j ≤ l.length) :
    ∃ v', (∀ (k k' : IntKind), psem (.sl sz true true false) [v, .int k i, .int k' j] = some v') ∧ (∀ (k : IntKind), j = l.length → psem (.sl sz true false false) [v, .int k i] = some v') ∧ (∀ (k : IntKind), i = 0 → psem (.sl sz false true false) [v, .int k j] = some v') ∧ Rd D enc sz H v' ((l.take j).drop i) := by
  obtain ⟨h1, h2⟩ := h
  obtain ⟨v', q1, q2, q3, q4, q5, q6⟩ := h1.cut i j hij hj
  refine ⟨v', q1, q2, q3, q4, ?_⟩
  intro b off sv n c f cs e hr
  obtain ⟨off0, sv0, n0, c0, e'⟩ := q6 b off sv n c e
  exact h2 b off0 sv0 n0 c0 f cs e' hr
end

/-! ### Variables in a row of their own -/
structure Box (H : AHeap) (b f : Nat) (cs : List AV) : Prop where
  row : H.row b = some (f, cs)
  fam : (H.fam f).isSome = true

theorem Box.new {H : AHeap} {cs : List AV} : Box (H.new cs) H.next H.next cs := by
  refine ⟨row_new_same, ?_⟩
  show (upd H.fam H.next _ H.next).isSome = true
  rw [upd_same]; rfl

theorem Box.keeps {D : Nat → Prop} {H H' : AHeap} {b f : Nat} {cs : List AV} (h : Box H b f cs) (hw : WF H) (k : Keeps D H H') (hd : ¬D f) : Box H' b f cs :=
  ⟨k.row _ _ _ h.row hd, by rw [k.fam f (hw.row_fam h.row) hd]; exact h.fam⟩

theorem Box.ld1 {H : AHeap} {b f : Nat} {x : AV} (h : Box H b f [x]) : rsem (.ld 1 false) [.ptr (some (b, 0))] H = some x := by
  simp [rsem, AHeap.ld, h.row]

theorem Box.st {H : AHeap} (hw : WF H) {b f off : Nat} {cs vs : List AV} (h : Box H b f cs) (hl : off + vs.length ≤ cs.length) (hc : vs.all AV.cell = true) :
    ∃ H', H.st b off vs = some H' ∧ WF H' ∧ Box H' b f (splice cs off vs) ∧ Keeps (fun g => g = f) H H' ∧ H'.next = H.next := by
  have e : H.st b off vs = some { H with blk := upd H.blk b (some (.row f (splice cs off vs))), fam := upd H.fam f (some (b, none)) } := by
    simp only [AHeap.st, h.row]
    rw [if_pos ⟨h.fam, hl, hc⟩]
  have hb := hw.row_lt h.row
  have hf := hw.row_fam h.row
  refine ⟨_, e, ⟨?_, ?_⟩, ⟨by simp [AHeap.row], by show (upd H.fam f _ f).isSome = true; rw [upd_same]; rfl⟩, ⟨Nat.le_refl _, ?_, ?_, ?_⟩, rfl⟩
  · intro c hc'
    show upd H.blk b _ c = none
    have hc' : H.next ≤ c := hc'
    rw [upd_ne _ _ _ (by omega)]
    exact hw.blk c hc'
  · intro c g ds hc'
    have hc' : upd H.blk b _ c = _ := hc'
    by_cases e : c = b
    · subst e; rw [upd_same] at hc'; simp at hc'; show g < H.next; omega
    · rw [upd_ne _ _ _ e] at hc'; exact hw.fam c g ds hc'
  · intro c g ds hr hne
    have hcb : c ≠ b := by
      rintro rfl
      rw [h.row] at hr; simp at hr; exact hne hr.1.symm
    exact row_of hr (upd_ne _ _ _ hcb) (upd_ne _ _ _ hne)
  · intro g hg hne
    show (upd H.fam f _ g).isSome = _
    rw [upd_ne _ _ _ hne]
  · intro m o es hm hne
    show upd H.blk b _ m = _
    have : m ≠ b := by
      rintro rfl
      rw [AHeap.row_blk h.row] at hm; cases hm
    rw [upd_ne _ _ _ this]; exact hm

theorem Box.st1 {H : AHeap} (hw : WF H) {b f : Nat} {x y : AV} (h : Box H b f [x]) (hc : y.cell = true) :
    ∃ H', wsem0 (.st 1) [.ptr (some (b, 0)), y] H = some (.undef, H') ∧ WF H' ∧ Box H' b f [y] ∧ Keeps (fun g => g = f) H H' ∧ H'.next = H.next := by
  have hy : y.cells = [y] := by cases y <;> simp_all [AV.cells, AV.cell]
  obtain ⟨H', q1, q2, q3, q4, q5⟩ := h.st hw (off := 0) (vs := [y]) (by simp) (by simpa using hc)
  refine ⟨H', ?_, q2, by simpa [splice] using q3, q4, q5⟩
  simp [wsem0_st, hy, q1]

theorem Box.stA {H : AHeap} (hw : WF H) {b f n : Nat} {cs ds : List AV} (h : Box H b f cs) (hc : cs.length = n) (hd : ds.length = n) (ha : ds.all AV.cell = true) :
    ∃ H', wsem0 (.st n) [.ptr (some (b, 0)), .agg ds] H = some (.undef, H') ∧ WF H' ∧ Box H' b f ds ∧ Keeps (fun g => g = f) H H' ∧ H'.next = H.next := by
  obtain ⟨H', q1, q2, q3, q4, q5⟩ := h.st hw (off := 0) (vs := ds) (by omega) ha
  refine ⟨H', ?_, q2, ?_, q4, q5⟩
  · simp only [wsem0_st, AV.cells, hd, if_true, q1]
  · have : splice cs 0 ds = ds := by simp [splice]; omega
    rwa [this] at q3
theorem Box.ldA {H : AHeap} {b f n : Nat} {cs : List AV} (h : Box H b f cs) (hc : cs.length = n) : rsem (.ld n true) [.ptr (some (b, 0))] H = some (.agg cs) := by
  subst hc
  simp [rsem, AHeap.ld, h.row]

theorem wsem0_bslA {n : Nat} {z cs : List AV} {H : AHeap} (hz : z.length = n) (hc : cs.length = n) (ha : cs.all AV.cell = true) (hn : n ≠ 0) : wsem0 (.bsl n 1 z [(0, n)]) [.agg cs] H = some (.slc (some (H.next, 0)) n 1 (some 1), H.new cs) := by
  have : splice z 0 cs = cs := by simp [splice]; omega
  simp only [List.all_eq_true] at ha
  simp [wsem0, wsem, fill, AV.cells, hc, hz, this, hn]
  rw [if_pos ha]
  simp [hc]

theorem psem_bld' {z : List AV} {at_ : List (Nat × Nat)} {vs : List AV} : psem (.bld z at_) vs = match fill z at_ vs with | some cs => some (.agg cs) | none => none := by cases vs <;> rfl

section
variable {α : Type} {enc : α → AV} {sz : Nat}
theorem push_a {n : Nat} {H : AHeap} (hw : WF H) (hn : n ≤ H.next) {v : AV} {l : List α} {bytes : Nat} (ho : Made enc sz n H v l) (x : α) (hs : sz ≠ 0) (hx : (enc x).cells.length = sz) (hc : (enc x).cells.all AV.cell = true) (hb : (l.length + 1) * bytes ≤ 2 ^ 46) (hb2 : l.length + 1 ≤ 2 ^ 60) :
    ∃ v' H', wsem0 (.app sz bytes) [v, .slc (some (H.next, 0)) sz 1 (some 1)] (H.new (enc x).cells) = some (v', H') ∧ WF H' ∧ Keeps (n ≤ ·) H H' ∧ Made enc sz n H' v' (l ++ [x]) := by
  obtain ⟨f, h1, h2⟩ := ho
  have := app_push (bytes := bytes) (ys := [x]) hw h1 hs (by simpa using hx) (by simpa using hc) (by simpa using hb) (by simpa using hb2)
  simp only [List.flatMap_cons, List.flatMap_nil, List.append_nil, List.length_cons, List.length_nil, Nat.zero_add] at this
  obtain ⟨v', H', f', q1, q2, q3, q4, q5⟩ := this
  refine ⟨v', H', q1, q2, q4.mono h2, f', q3, fun g hg => ?_⟩
  rcases q5 g hg with h | h
  · exact h2 g h
  · exact Nat.le_trans hn h
end

theorem splice_one {cs : List AV} {k : Nat} {y : AV} (h : k < cs.length) : splice cs k [y] = cs.set k y := by
  rw [List.set_eq_take_append_cons_drop, if_pos h]
  simp [splice]

section
variable {α : Type} {enc : α → AV}
/-- An element is written. -/
theorem Made.st [Cell enc] {n : Nat} {H : AHeap} (hw : WF H) {v : AV} {l : List α} (h : Made enc 1 n H v l) {i : Int} (h0 : 0 ≤ i) (h1 : i < l.length) (x : α) :
    ∃ H', wsem0 (.st 1) [elt v 1 i, enc x] H = some (.undef, H') ∧ WF H' ∧ Keeps (n ≤ ·) H H' ∧ Made enc 1 n H' v (l.set i.toNat x) ∧ H'.next = H.next := by
  obtain ⟨f, ⟨⟨hz, p, sv, cap, rfl, hcap, h2⟩, hf⟩, hn⟩ := h
  cases p with
  | none => have h2 : l = [] := h2; subst h2; simp at h1; omega
  | some q =>
    obtain ⟨b, off⟩ := q
    obtain ⟨rfl, g, cs, h4, h5, h6⟩ := h2
    obtain ⟨g', cs', q1, q2, q3⟩ := hf
    rw [h4] at q1; cases q1
    have hbox : Box H b g cs := ⟨h4, q3⟩
    have hi : off + i.toNat < cs.length := by omega
    obtain ⟨H', r1, r2, r3, r4, r5⟩ := hbox.st hw (off := off + i.toNat) (vs := [enc x]) (by simp; omega) (by simpa using Cell.cell x)
    rw [splice_one hi] at r3
    have hc := Cell.cells (enc := enc) x
    refine ⟨H', ?_, r2, r4.mono fun g' hg => by subst hg; exact hn _ q2, ⟨f, ⟨⟨Cell.len _, some (b, off), 1, cap, by rw [List.length_set], by simpa using hcap, rfl, g, _, r3.row, by simpa using h5, ?_⟩, g, _, r3.row, q2, r3.fam⟩, hn⟩, r5⟩
    · simp only [elt, Nat.mul_one, wsem0_st, hc, List.length_singleton, if_true, r1]
    · rw [Cell.flat] at h6 ⊢
      rw [List.length_set, List.drop_set, if_neg (by omega), List.take_set, h6, List.map_set]
      congr 1
      omega

/-- Two lists that grow side by side. -/
def Two (enc : α → AV) (n : Nat) (H : AHeap) (a : AV) (la : List α) (b : AV) (lb : List α) : Prop :=
  ∃ fa fb, Own enc 1 H a la fa ∧ Own enc 1 H b lb fb ∧ (∀ g, fa = some g → n ≤ g) ∧ (∀ g, fb = some g → n ≤ g) ∧ ∀ g, fa = some g → fb = some g → False

theorem Two.nil {n : Nat} {H : AHeap} : Two enc n H (.slc none 0 0 none) [] (.slc none 0 0 none) [] := ⟨none, none, Own.nil (by simp), Own.nil (by simp), by simp, by simp, by simp⟩
theorem Two.symm {n : Nat} {H : AHeap} {a b : AV} {la lb : List α} (h : Two enc n H a la b lb) : Two enc n H b lb a la := by
  obtain ⟨fa, fb, h1, h2, h3, h4, h5⟩ := h
  exact ⟨fb, fa, h2, h1, h4, h3, fun g x y => h5 g y x⟩
theorem Two.left {n : Nat} {H : AHeap} {a b : AV} {la lb : List α} (h : Two enc n H a la b lb) : Made enc 1 n H a la := by
  obtain ⟨fa, fb, h1, h2, h3, h4, h5⟩ := h
  exact ⟨fa, h1, h3⟩
theorem Two.push [Cell enc] {n : Nat} {H : AHeap} (hw : WF H) (hn : n ≤ H.next) {a b : AV} {la lb : List α} {bytes : Nat} (h : Two enc n H a la b lb) (x : α) (hb : (la.length + 1) * bytes ≤ 2 ^ 46) (hb2 : la.length + 1 ≤ 2 ^ 60) :
    ∃ v' H', wsem0 (.app 1 bytes) [a, .slc (some (H.next, 0)) 1 1 (some 1)] (H.new [enc x]) = some (v', H') ∧ WF H' ∧ Keeps (n ≤ ·) H H' ∧ Two enc n H' v' (la ++ [x]) b lb := by
  obtain ⟨fa, fb, h1, h2, h3, h4, h5⟩ := h
  obtain ⟨v', H', f', q1, q2, q3, q4, q5⟩ := push1 (bytes := bytes) hw h1 x hb hb2
  refine ⟨v', H', q1, q2, q4.mono h3, f', fb, q3, h2.keeps hw q4 fun g hg hd => h5 g hd hg, fun g hg => ?_, h4, fun g hg hd => ?_⟩
  · rcases q5 g hg with h | h
    · exact h3 g h
    · exact Nat.le_trans hn h
  · rcases q5 g hg with h | h
    · exact h5 g h hd
    · subst hd
      have := h2.2.lt hw
      omega
end

/-! ### Maps -/
def Mp (H : AHeap) (m : Nat) (es : List (AV × AV)) : Prop := H.blk m = some (.map true es)

theorem Mp.lt {H : AHeap} (hw : WF H) {m : Nat} {es : List (AV × AV)} (h : Mp H m es) : m < H.next := by
  by_cases h2 : m < H.next
  · exact h2
  · have := hw.blk m (by omega); rw [show H.blk m = _ from h] at this; cases this

theorem Mp.keeps {D : Nat → Prop} {H H' : AHeap} {m : Nat} {es : List (AV × AV)} (h : Mp H m es) (k : Keeps D H H') (hd : ¬D m) : Mp H' m es := k.map m true es h hd

theorem WF.newMap {H : AHeap} (hw : WF H) : WF H.newMap ∧ Mp H.newMap H.next [] ∧ ∀ D, Keeps D H H.newMap := by
  refine ⟨⟨?_, ?_⟩, upd_same _ _ _, fun D => ⟨Nat.le_succ _, ?_, fun _ _ _ => rfl, ?_⟩⟩
  · intro b hb
    show upd H.blk H.next _ b = none
    have hb : H.next + 1 ≤ b := hb
    rw [upd_ne _ _ _ (by omega)]
    exact hw.blk b (by omega)
  · intro b f ds h
    show f < H.next + 1
    have h : upd H.blk H.next (some (.map true [])) b = _ := h
    by_cases hb : b = H.next
    · subst hb; rw [upd_same] at h; simp at h
    · rw [upd_ne _ _ _ hb] at h; have := hw.fam b f ds h; omega
  · intro b f ds h _
    have h1 := hw.row_lt h
    exact row_of h (upd_ne _ _ _ (by omega)) rfl
  · intro m o es h _
    show upd H.blk H.next _ m = _
    have : m ≠ H.next := by
      rintro rfl
      rw [hw.blk _ (Nat.le_refl _)] at h; cases h
    rw [upd_ne _ _ _ this]; exact h

theorem Mp.set {H : AHeap} (hw : WF H) {m : Nat} {es : List (AV × AV)} (h : Mp H m es) (es' : List (AV × AV)) : WF (H.setMap m es') ∧ Mp (H.setMap m es') m es' ∧ Keeps (fun g => g = m) H (H.setMap m es') := by
  have hm := h.lt hw
  refine ⟨⟨?_, ?_⟩, upd_same _ _ _, ⟨Nat.le_refl _, ?_, fun _ _ _ => rfl, ?_⟩⟩
  · intro b hb
    show upd H.blk m _ b = none
    have hb : H.next ≤ b := hb
    rw [upd_ne _ _ _ (by omega)]
    exact hw.blk b hb
  · intro b f ds hb
    have hb : upd H.blk m (some (.map true es')) b = _ := hb
    by_cases e : b = m
    · subst e; rw [upd_same] at hb; simp at hb
    · rw [upd_ne _ _ _ e] at hb; exact hw.fam b f ds hb
  · intro b f ds hr _
    have hbm : b ≠ m := by
      rintro rfl
      have := AHeap.row_blk hr
      rw [show H.blk b = _ from h] at this; cases this
    exact row_of hr (upd_ne _ _ _ hbm) rfl
  · intro m' o es h' hne
    show upd H.blk m _ m' = _
    rw [upd_ne _ _ _ hne]; exact h'

theorem Mp.mset {H : AHeap} {m : Nat} {es : List (AV × AV)} (h : Mp H m es) {ck : CK} {k v : AV} (hk : keyOk ck k = true) (hf : findK ck k es 0 = some none) :
    wsem0 (.mset ck) [.map (some m), k, v] H = some (.undef, H.setMap m (es ++ [(k, v)])) := by
  simp [wsem0, wsem, show H.blk m = _ from h, hk, hf]

theorem Mp.look {H : AHeap} {m : Nat} {es : List (AV × AV)} (h : Mp H m es) {ck : CK} {k zero : AV} {r : Option (Nat × AV)} (hk : keyOk ck k = true) (hf : findK ck k es 0 = some r) :
    rsem (.look ck zero false) [.map (some m), k] H = some (match r with | some (_, v) => v | none => zero) := by
  simp only [rsem, AHeap.ents, show H.blk m = _ from h, hk, hf, if_true]
  cases r <;> simp

theorem findK_ints (x : Int) : ∀ (l : List Int) (i : Nat), ∃ j, findK .int (encI x) (l.map fun y => (encI y, encB true)) i = some (if x ∈ l then some (j, .bool true) else none)
  | [], i => ⟨0, rfl⟩
  | y :: l, i => by
    simp only [List.map_cons, findK, keyEq]
    by_cases e : x = y
    · subst e; exact ⟨i, by simp⟩
    · obtain ⟨j, hj⟩ := findK_ints x l (i + 1)
      refine ⟨j, ?_⟩
      have : (x == y) = false := by simpa using e
      simp [this, hj, e]
end Go.Am
