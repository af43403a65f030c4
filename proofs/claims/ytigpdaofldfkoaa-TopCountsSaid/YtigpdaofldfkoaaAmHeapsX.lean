/- Contracts: what the methods that look along references begin with: strong, numbers, set, Clone. -/
import Derived.Test.YtigpdaofldfkoaaAmHeapV
import Derived.Test.YtigpdaofldfkoaaAmRngL
set_option linter.unusedVariables false
set_option linter.unusedSimpArgs false
namespace Go.Am
variable {T : Tab}
/-- The places of what is true. -/
def numsTo (bs : List Bool) (j : Nat) : List Int := ((List.range j).filter fun (i : Nat) => nth bs (i : Int)).map fun (i : Nat) => (i : Int)
theorem numsTo_succ (bs : List Bool) (j : Nat) : numsTo bs (j + 1) = if nth bs (j : Int) = true then numsTo bs j ++ [(j : Int)] else numsTo bs j := by
  unfold numsTo
  rw [List.range_succ, List.filter_append, List.map_append]
  by_cases h : nth bs (j : Int) = true
  · rw [if_pos h]; simp [h]
  · rw [if_neg h]; simp [h]
theorem numsTo_len (bs : List Bool) (j : Nat) : (numsTo bs j).length ≤ j := by
  unfold numsTo
  rw [List.length_map]
  have := List.length_filter_le (fun i : Nat => nth bs (i : Int)) (List.range j)
  simpa using this
theorem c366 (D : D366 T) {H : AHeap} (hw : WF H) {v : AV} {bs : List Bool} (hv : Sl encB 1 H v bs) (hl : bs.length ≤ 2 ^ 30) : Calls T 366 [v] H fun r K => Fr H K ∧ Made encI 1 H.next K r (numsTo bs bs.length) := by
  refine Calls.fn D.pr D.fn ?_
  simp [ir366, hv.len]
  refine W_loop (fun (i : Nat) e K => e 6 = v ∧ e 7 = .int .i64 bs.length ∧ ∃ j : Nat, i + j = bs.length ∧ e 8 = .int .i64 j ∧ Fr H K ∧ ∃ ov, e 3 = ov ∧ Made encI 1 H.next K ov (numsTo bs j)) id bs.length ?_ ?_
  · exact ⟨by simp, by simp, 0, by simp, by simp, .refl hw, _, rfl, .nil⟩
  · rintro i e K ⟨x6, x7, j, hj, x8, fr, ov, x3, mo⟩
    simp [x6, x7, x8]
    refine WB.dec ?_ ?_
    · intro hlt
      have hs := hv.fr hw fr
      have ia := hs.ia (k := .i64) (i := j) (by omega) (by omega)
      have ld := hs.ld (i := j) (by omega) (by omega)
      have hlen := numsTo_len bs j
      have hsu := numsTo_succ bs j
      simp [x3, x6, x7, x8, ia, ld, encB]
      refine WB.bool ?_ ?_
      · intro hb
        rw [if_pos hb] at hsu
        have hb1 := wsem0_bsl1 (v := .int .i64 (j : Int)) (z := .int .i64 0) (H := K) rfl
        obtain ⟨v', K', q1, q2, q3⟩ := push1_made (bytes := 8) fr mo (j : Int) (by omega) (by omega)
        simp [x3, x6, x7, x8, hb1, q1]
        refine ⟨i - 1, by omega, j + 1, by omega, by rw [wrap64 (by omega) (by omega)]; simp, q2, ?_⟩
        rw [hsu]; exact q3
      · intro hb
        rw [if_neg (by simp [hb])] at hsu
        simp [x3, x6, x7, x8]
        refine ⟨i - 1, by omega, j + 1, by omega, by rw [wrap64 (by omega) (by omega)]; simp, fr, ?_⟩
        rw [hsu]; exact mo
    · intro hlt
      have : j = bs.length := by omega
      subst this
      simp [x3]
      exact ⟨fr, mo⟩
/-- To which cells a cell refers strongly. -/
def strongs (fs : List Fld) : List Int := (fs.filter fun x => x.is && !x.weak).map (·.to)
theorem strongs_take {fs : List Fld} {j : Nat} (h : j < fs.length) : strongs (fs.take (j + 1)) = if ((nth fs (j : Int)).is && !(nth fs (j : Int)).weak) = true then strongs (fs.take j) ++ [(nth fs (j : Int)).to] else strongs (fs.take j) := by
  unfold strongs
  rw [take_nth h, List.filter_append, List.map_append]
  by_cases hb : ((nth fs (j : Int)).is && !(nth fs (j : Int)).weak) = true
  · rw [if_pos hb]; simp only [List.filter_cons, hb, if_true, List.filter_nil, List.map_cons, List.map_nil]
  · rw [if_neg hb]; simp only [List.filter_cons, hb, List.filter_nil]; simp
theorem strongs_len (fs : List Fld) : (strongs fs).length ≤ fs.length := by
  unfold strongs; rw [List.length_map]; exact List.length_filter_le _ _
section
variable {k : Nat} {tg : Tags} {H : AHeap} {b : Nat} {lk : Int} {S : Hp} {fb m : Nat} {cv nv : AV} {fc fn : Option Nat} {xs : List (AV × Cel)} {ff : Nat → Option Nat}
theorem c371 (D : D371 T) (hw : WF H) (hk : TagOk tg H) (h : HpI k tg H b lk S fb m cv nv fc fn xs ff) {i : Int} (h0 : 0 ≤ i) (h1 : i < S.cells.length) (hl : (nth S.cells i).fs.length ≤ 8) :
    Calls T 371 [.ptr (some (b, 0)), .int .i64 i] H fun r K => Fr H K ∧ Made encI 1 H.next K r (strongs (nth S.cells i).fs) := by
  refine Calls.fn D.pr D.fn ?_
  obtain ⟨bo, oo, e1, e2, e3, e4, e5, e6, _, _, _, _⟩ := h.cell hw hk h0 h1
  have ia := h.ia (kk := .i64) h0 h1
  have hf := h.fld h0 h1
  have hfl : psem .len [(nth xs i).1] = some (.int .i64 (nth S.cells i).fs.length) := hf.len
  obtain ⟨fv, hfv⟩ : ∃ fv, (nth xs i).1 = fv := ⟨_, rfl⟩
  rw [hfv] at hf hfl
  rw [hfv] at e2
  simp [ir371, h.ldc, ia, e1, e2, hfl]
  refine W_loop (fun (z : Nat) e K => e 15 = fv ∧ e 16 = .int .i64 (nth S.cells i).fs.length ∧ ∃ q : Nat, z + q = (nth S.cells i).fs.length ∧ e 17 = .int .i64 q ∧ Fr H K ∧ ∃ ov, e 5 = ov ∧ Made encI 1 H.next K ov (strongs ((nth S.cells i).fs.take q))) id (nth S.cells i).fs.length ?_ ?_
  · exact ⟨by simp, by simp, 0, by simp, by simp, .refl hw, _, rfl, .nil⟩
  · rintro z e K ⟨x15, x16, q, hq, x17, fr, ov, x5, mo⟩
    simp [x15, x16, x17]
    refine WB.dec ?_ ?_
    · intro hlt
      have hqs : q < (nth S.cells i).fs.length := by omega
      have hs := hf.fr hw fr
      have ia3 := hs.ia (k := .i64) (i := q) (by omega) (by omega)
      obtain ⟨x, hx⟩ : ∃ x, nth (nth S.cells i).fs (q : Int) = x := ⟨_, rfl⟩
      have ld := hs.ldA (i := q) (by omega) (by omega) (cs := [.bool x.is, .bool x.weak, .int .i64 x.to]) (by rw [hx]; rfl)
      obtain ⟨K1, s1, s2, s3⟩ := box_copy fr.wf (n := 3) (zs := [.bool false, .bool false, .int .i64 0]) (ds := [.bool x.is, .bool x.weak, .int .i64 x.to]) rfl rfl (by simp [AV.cell])
      have l0 : rsem (.ld 1 false) [.ptr (some (K.next, 0))] K1 = some (.bool x.is) := by simp [rsem, AHeap.ld, s3.row]
      have l1 : rsem (.ld 1 false) [.ptr (some (K.next, 1))] K1 = some (.bool x.weak) := by simp [rsem, AHeap.ld, s3.row]
      have l2 : rsem (.ld 1 false) [.ptr (some (K.next, 2))] K1 = some (.int .i64 x.to) := by simp [rsem, AHeap.ld, s3.row]
      have hsl := strongs_len ((nth S.cells i).fs.take q)
      rw [List.length_take] at hsl
      have hst := strongs_take hqs
      rw [hx] at hst
      have fr1 := fr.trans s2
      have mo1 := mo.fr fr.wf s2
      have fin : ∀ (X : AHeap) ov', Fr H X → Made encI 1 H.next X ov' (strongs ((nth S.cells i).fs.take (q + 1))) → ∃ j, j < z ∧ ∃ q', j + q' = (nth S.cells i).fs.length ∧ IntKind.i64.wrap ((q : Int) + 1) = (q' : Int) ∧ Fr H X ∧ Made encI 1 H.next X ov' (strongs ((nth S.cells i).fs.take q')) :=
        fun X ov' f1 m1 => ⟨z - 1, by omega, q + 1, by omega, by rw [wrap64 (by omega) (by omega)]; simp, f1, m1⟩
      cases hi : x.is with
      | false =>
        rw [hi] at hst l0
        rw [if_neg (by simp)] at hst
        rw [hi] at ld s1
        simp [x15, x16, x17, x5, ia3, ld, AV.cells, AV.cell, s1, l0]
        exact fin _ _ fr1 (by rw [hst]; exact mo1)
      | true =>
        rw [hi] at hst l0 ld s1
        cases hw : x.weak with
        | true =>
          rw [hw] at hst l1 ld s1
          rw [if_neg (by simp)] at hst
          simp [x15, x16, x17, x5, ia3, ld, AV.cells, AV.cell, s1, l0, l1]
          exact fin _ _ fr1 (by rw [hst]; exact mo1)
        | false =>
          rw [hw] at hst l1 ld s1
          rw [if_pos (by simp)] at hst
          have hb1 := wsem0_bsl1 (v := .int .i64 x.to) (z := .int .i64 0) (H := K1) rfl
          obtain ⟨v', K2, q1, q2, q3⟩ := push1_made (bytes := 8) fr1 mo1 x.to (by omega) (by omega)
          simp [x15, x16, x17, x5, ia3, ld, AV.cells, AV.cell, s1, l0, l1, l2, hb1, q1]
          exact fin _ _ q2 (by rw [hst]; exact q3)
    · intro hlt
      have : q = (nth S.cells i).fs.length := by omega
      subst this
      rw [List.take_length] at mo
      simp [x5]
      exact ⟨fr, mo⟩
end
end Go.Am

/- Contracts: what some cells lead to: from. -/
set_option linter.unusedVariables false
set_option linter.unusedSimpArgs false
namespace Go.Am
variable {T : Tab}
theorem c173 (D : D173 T) {H : AHeap} (hw : WF H) {v : AV} {l : List Int} (hv : Sl encI 1 H v l) (hl : l.length ≤ 2 ^ 30) : Calls T 173 [v] H fun r H' => Fr H H' ∧ Made encI 1 H.next H' r l := by
  refine Calls.fn D.pr D.fn ?_
  obtain ⟨p, sv, cap, rfl⟩ : ∃ p sv cap, v = .slc p sv l.length cap := by obtain ⟨_, p, sv, cap, e, _⟩ := hv; exact ⟨p, sv, cap, e⟩
  simp [ir173]
  refine WB.bool ?_ ?_
  · intro h
    simp at h
    subst h
    have : l = [] := by obtain ⟨_, p, sv, cap, e, _, h⟩ := hv; cases e; exact h
    subst this
    simp
    exact ⟨.refl hw, .nil⟩
  · intro h
    simp
    have e := hw.own_new (enc := encI) (sz := 1) (l := []) (cs := []) (cap := some 0) (by simp) (by simp) (by simp) (by simp)
    obtain ⟨v', H', q1, q2, q3⟩ := app_made (bytes := 8) hw.fr_new (⟨some H.next, e, by simp⟩ : Made encI 1 H.next (H.new []) _ []) (hv.fr hw hw.fr_new) (by simp) (Cell.all _) (by simp; omega) (by simp; omega)
    simp at q1
    simp [q1]
    exact ⟨q2, q3⟩
/-! ### What leads where -/
inductive Reach (cs : List Cel) : Int → Int → Prop
  | refl (a : Int) : Reach cs a a
  | step {a b c : Int} : Reach cs a b → c ∈ strongs (nth cs b).fs → Reach cs a c
def falses (bs : List Bool) : Nat := bs.countP (· == false)
theorem falses_set {bs : List Bool} {a : Int} (h0 : 0 ≤ a) (h1 : a < bs.length) (h : nth bs a = false) : falses (bs.set a.toNat true) + 1 = falses bs := by
  have hi : a.toNat < bs.length := by omega
  have hn : nth bs a = bs[a.toNat] := by simp [nth, List.getElem?_eq_getElem hi]
  rw [List.set_eq_take_append_cons_drop, if_pos hi]
  have e : bs = bs.take a.toNat ++ bs[a.toNat] :: bs.drop (a.toNat + 1) := by rw [← List.drop_eq_getElem_cons hi, List.take_append_drop]
  have e2 : falses bs = falses (bs.take a.toNat ++ bs[a.toNat] :: bs.drop (a.toNat + 1)) := by rw [← e]
  rw [e2, ← hn, h]
  simp only [falses, List.countP_append, List.countP_cons]
  simp; omega
/-- What holds on the way: bs has been seen, todo is to be looked at. -/
structure Way (cs : List Cel) (l : List Int) (bs : List Bool) (todo : List Int) : Prop where
  len : bs.length = cs.length
  in_ : ∀ a ∈ todo, 0 ≤ a ∧ a < cs.length
  start : ∀ a ∈ l, nth bs a = true ∨ a ∈ todo
  next : ∀ a : Int, 0 ≤ a → a < cs.length → nth bs a = true → ∀ t ∈ strongs (nth cs a).fs, nth bs t = true ∨ t ∈ todo
  sound : ∀ a : Int, 0 ≤ a → a < cs.length → (nth bs a = true ∨ a ∈ todo) → ∃ r ∈ l, Reach cs r a
theorem Way.done {cs : List Cel} {l : List Int} {bs : List Bool} (h : Way cs l bs []) (hl : ∀ a ∈ l, 0 ≤ a ∧ a < cs.length) (ht : ∀ c ∈ cs, ∀ t ∈ strongs c.fs, 0 ≤ t ∧ t < cs.length) {a : Int} (a0 : 0 ≤ a) (a1 : a < cs.length) : nth bs a = true ↔ ∃ r ∈ l, Reach cs r a := by
  constructor
  · intro hb; exact h.sound a a0 a1 (.inl hb)
  · rintro ⟨r, hr, hx⟩
    have : 0 ≤ a ∧ a < cs.length ∧ nth bs a = true := by
      clear a0 a1
      induction hx with
      | refl => exact ⟨(hl r hr).1, (hl r hr).2, (h.start r hr).resolve_right (by simp)⟩
      | step hab hc ih =>
        obtain ⟨i0, i1, i2⟩ := ih
        obtain ⟨t0, t1⟩ := ht _ (nth_mem i0 i1) _ hc
        exact ⟨t0, t1, (h.next _ i0 i1 i2 _ hc).resolve_right (by simp)⟩
    exact this.2.2
/-- One that was seen already. -/
theorem Way.skip {cs : List Cel} {l : List Int} {bs : List Bool} {todo : List Int} {a : Int} (h : Way cs l bs (todo ++ [a])) (hb : nth bs a = true) : Way cs l bs todo := by
  refine ⟨h.len, fun x hx => h.in_ x (by simp [hx]), fun x hx => ?_, fun x x0 x1 hx t ht => ?_, fun x x0 x1 hx => h.sound x x0 x1 (hx.imp id fun h => by simp [h])⟩
  · rcases h.start x hx with q | q
    · exact .inl q
    · rcases List.mem_append.1 q with q | q
      · exact .inr q
      · rw [List.mem_singleton] at q; subst q; exact .inl hb
  · rcases h.next x x0 x1 hx t ht with q | q
    · exact .inl q
    · rcases List.mem_append.1 q with q | q
      · exact .inr q
      · rw [List.mem_singleton] at q; subst q; exact .inl hb
/-- A new one. -/
theorem Way.look {cs : List Cel} {l : List Int} {bs : List Bool} {todo : List Int} {a : Int} (h : Way cs l bs (todo ++ [a])) (ht : ∀ c ∈ cs, ∀ t ∈ strongs c.fs, 0 ≤ t ∧ t < cs.length) : Way cs l (bs.set a.toNat true) (todo ++ strongs (nth cs a).fs) := by
  obtain ⟨a0, a1⟩ := h.in_ a (by simp)
  have hs : ∀ x : Int, 0 ≤ x → nth (bs.set a.toNat true) x = if a = x then true else nth bs x := fun x hx => nth_set a0 (by rw [h.len]; exact a1) hx
  have up : ∀ x : Int, 0 ≤ x → (nth bs x = true ∨ x ∈ todo ++ [a]) → nth (bs.set a.toNat true) x = true ∨ x ∈ todo ++ strongs (nth cs a).fs := by
    intro x x0 hx
    rw [hs x x0]
    rcases hx with q | q
    · left; split <;> simp [q]
    · rcases List.mem_append.1 q with q | q
      · right; simp [q]
      · rw [List.mem_singleton] at q; subst q; left; simp
  obtain ⟨r, hr, hra⟩ := h.sound a a0 a1 (.inr (by simp))
  have hnn : ∀ x ∈ l, 0 ≤ x ∨ nth bs x = true := fun x hx => by
    rcases h.start x hx with q | q
    · exact .inr q
    · exact .inl (h.in_ x q).1
  refine ⟨by simp [h.len], fun x hx => ?_, fun x hx => ?_, fun x x0 x1 hx t htx => ?_, fun x x0 x1 hx => ?_⟩
  · rcases List.mem_append.1 hx with q | q
    · exact h.in_ x (by simp [q])
    · exact ht _ (nth_mem a0 a1) x q
  · by_cases x0 : 0 ≤ x
    · exact up x x0 (h.start x hx)
    · rcases h.start x hx with q | q
      · left
        have e : nth (bs.set a.toNat true) x = nth (bs.set a.toNat true) 0 := by unfold nth; rw [show x.toNat = (0 : Int).toNat by omega]
        have e2 : nth bs x = nth bs 0 := by unfold nth; rw [show x.toNat = (0 : Int).toNat by omega]
        rw [e, hs 0 (by omega)]
        split
        · rfl
        · rw [← e2]; exact q
      · exact absurd (h.in_ x q).1 x0
  · rw [hs x x0] at hx
    have t0 := (ht _ (nth_mem x0 x1) t htx).1
    by_cases e : a = x
    · subst e; right; simp [htx]
    · rw [if_neg e] at hx
      exact up t t0 (h.next x x0 x1 hx t htx)
  · rw [hs x x0] at hx
    by_cases e : a = x
    · subst e; exact ⟨r, hr, hra⟩
    · rw [if_neg e] at hx
      rcases hx with q | q
      · exact h.sound x x0 x1 (.inl q)
      · rcases List.mem_append.1 q with q | q
        · exact h.sound x x0 x1 (.inr (by simp [q]))
        · exact ⟨r, hr, hra.step q⟩
theorem flat_bools (n : Nat) (x : Bool) : (List.replicate n [AV.bool x]).flatten = (List.replicate n x).flatMap fun y => (encB y).cells := by
  rw [List.flatMap_def, List.map_replicate]; rfl
section
variable {k : Nat} {tg : Tags} {H : AHeap} {b : Nat} {lk : Int} {S : Hp} {fb m : Nat} {cv nv : AV} {fc fn : Option Nat} {xs : List (AV × Cel)} {ff : Nat → Option Nat}
/-- What some cells lead to. -/
theorem c370 (D : D370 T) (hw : WF H) (hk : TagOk tg H) (h : HpI k tg H b lk S fb m cv nv fc fn xs ff) (hs : Shp S.cells) (ht : ∀ c ∈ S.cells, ∀ t ∈ strongs c.fs, 0 ≤ t ∧ t < S.cells.length) {v : AV} {l : List Int} (hv : Sl encI 1 H v l) (hl : ∀ a ∈ l, 0 ≤ a ∧ a < S.cells.length) (hll : l.length ≤ 2 ^ 20) :
    Calls T 370 [.ptr (some (b, 0)), v] H fun r K => Fr H K ∧ ∃ bs : List Bool, Made encB 1 H.next K r bs ∧ bs.length = S.cells.length ∧ ∀ a : Int, 0 ≤ a → a < S.cells.length → (nth bs a = true ↔ ∃ r ∈ l, Reach S.cells r a) := by
  refine Calls.fn D.pr D.fn ?_
  obtain ⟨n, hn⟩ : ∃ n, S.cells.length = n := ⟨_, rfl⟩
  have hn100 : n ≤ 100 := by rw [← hn]; exact hs.len
  have hmk := wsem0_mks (bytes := 1) (n := n) (zero := [AV.bool false]) (k := .i64) (l := .i64) (H := H) (by omega) (by simp) rfl (by omega)
  have ow := hw.own_new (enc := encB) (sz := 1) (l := List.replicate n false) (cs := (List.replicate n [AV.bool false]).flatten) (cap := some n) (by intro x _; rfl) (by simp) (by simp) (by
    rw [flat_bools]
    rw [List.take_of_length_le]
    rw [flat_len (sz := 1) (by intro x _; rfl)]
    simp)
  simp only [List.length_replicate] at ow
  have f1 := hw.fr_new (cs := (List.replicate n [AV.bool false]).flatten)
  obtain ⟨H1, hH1⟩ : ∃ H1, H.new (List.replicate n [AV.bool false]).flatten = H1 := ⟨_, rfl⟩
  rw [hH1] at hmk ow f1
  have hlen := h.lenC
  rw [hn] at hlen
  simp only [List.length_cons, List.length_nil] at hmk
  simp [ir370, h.ldc, hlen, hmk]
  refine WC.of (c173 D.d173 f1.wf (hv.fr hw f1) (by omega)) ?_
  rintro r H2 ⟨f2, mo⟩
  have hnx : H.next < H1.next := by rw [← hH1]; exact Nat.lt_succ_self _
  simp
  refine W_loop (fun (z : Nat) e K => e 0 = .ptr (some (b, 0)) ∧ Fr H K ∧ ∃ sv, e 5 = sv ∧ ∃ bs, Own encB 1 K sv bs (some H.next) ∧ ∃ tv, e 6 = tv ∧ ∃ todo, Made encI 1 H1.next K tv todo ∧ H1.next ≤ K.next ∧ Way S.cells l bs todo ∧ 9 * falses bs + todo.length = z ∧ z ≤ 2 ^ 21) id (9 * n + l.length) ?_ ?_
  · refine ⟨by simp, f1.trans f2, _, rfl, List.replicate n false, ow.fr f1.wf f2, _, rfl, l, mo, f2.next, ?_, ?_, by omega⟩
    · refine ⟨by simp [hn], hl, fun a ha => .inr ha, fun a a0 a1 hb => ?_, fun a a0 a1 hb => ?_⟩
      · exfalso
        have : nth (List.replicate n false) a = false := by unfold nth; rw [List.getD_eq_getElem?_getD]; cases hq : (List.replicate n false)[a.toNat]? with | none => rfl | some y => (have := List.mem_of_getElem? hq; rw [List.mem_replicate] at this; simp [this.2])
        rw [this] at hb; cases hb
      · rcases hb with hb | hb
        · exfalso
          have : nth (List.replicate n false) a = false := by unfold nth; rw [List.getD_eq_getElem?_getD]; cases hq : (List.replicate n false)[a.toNat]? with | none => rfl | some y => (have := List.mem_of_getElem? hq; rw [List.mem_replicate] at this; simp [this.2])
          rw [this] at hb; cases hb
        · exact ⟨a, hb, .refl a⟩
    · have : falses (List.replicate n false) = n := by unfold falses; rw [List.countP_eq_length.2]; simp; intro x hx; rw [(List.mem_replicate.1 hx).2]; rfl
      rw [this]
  · rintro z e K ⟨x0, fr, sv, x5, bs, os, tv, x6, todo, mt, hnk, wy, hz, hz2⟩
    have hwK := fr.wf
    simp [x0, x5, x6, mt.sl.len]
    refine WB.dec ?_ ?_
    · intro hpos
      -- the last one
      obtain ⟨a, rest, hta⟩ : ∃ a rest, todo = rest ++ [a] := by
        rcases List.eq_nil_or_concat todo with q | ⟨rest, a, q⟩
        · rw [q] at hpos; simp at hpos
        · exact ⟨a, rest, by simpa using q⟩
      subst hta
      obtain ⟨a0, a1⟩ := wy.in_ a (by simp)
      have hlt : (rest ++ [a]).length = rest.length + 1 := by simp
      have ia := mt.sl.ia (k := .i64) (i := (rest.length : Int)) (by omega) (by rw [hlt]; omega)
      have ld := mt.sl.ld (i := (rest.length : Int)) (by omega) (by rw [hlt]; omega)
      have hna : nth (rest ++ [a]) (rest.length : Int) = a := by unfold nth; rw [List.getD_eq_getElem?_getD, Int.toNat_natCast, List.getElem?_append_right (Nat.le_refl _)]; simp
      rw [hna] at ld
      obtain ⟨tf, to, hto⟩ := mt
      obtain ⟨v', _, _, c3, c4, c5, _⟩ := to.1.cut 0 rest.length (by omega) (by rw [hlt]; omega)
      have cut := c3 .i64 rfl
      rw [List.take_left, List.drop_zero] at c4
      have mt' : Made encI 1 H1.next K v' rest := ⟨tf, ⟨c4, c5 _ to.2⟩, hto⟩
      have hmt := to.1.len
      rw [hlt] at hmt
      have hal : a < bs.length := by rw [wy.len]; exact a1
      obtain ⟨bo, oo, p1, p2, p3⟩ := os.at hwK a0 hal
      have iab := os.1.ia (k := .i64) a0 hal
      have ldb := os.1.ld a0 hal
      have hw1 : IntKind.i64.wrap ((rest.length : Int) + 1 - 1) = rest.length := by rw [wrap64 (by omega) (by omega)]; omega
      have hw2 : IntKind.i64.wrap ((rest.length : Int)) = rest.length := wrap64 (by omega) (by omega)
      rw [hlt] at hz
      simp [x0, x5, x6, hmt, ia, ld, hw1, hw2, cut, iab, ldb, encI, encB]
      refine WB.bool ?_ ?_
      · intro hb
        have hbf : nth bs a = false := by simpa using hb
        obtain ⟨K1, s1, s2, s3, s4, s5⟩ := p3 true 0 [.bool true] rfl (by simp) (by simp [encB, AV.cells, splice])
        have hst : wsem0 (.st 1) [elt sv 1 a, .bool true] K = some (.undef, K1) := by
          rw [p1]
          simp only [Nat.add_zero] at s1
          simp [wsem0_st, AV.cells, s1]
        have fr1 : Fr H K1 := fr.step s2 s4 fun g hg => by simp at hg; omega
        have hi1 : HpI k tg K1 b lk S fb m cv nv fc fn xs ff := h.keeps hw fr1.keeps fun g t hg htg => ⟨by omega, htg⟩
        simp [x0, x5, iab, hst]
        refine WC.of (c371 D.d371 s2 (fun g hg => hk g (Nat.le_trans fr1.next hg)) hi1 a0 a1 (hs.fl _ (nth_mem a0 a1))) ?_
        rintro r K2 ⟨f3, mr⟩
        have mt1 := (mt'.keeps hwK s4 (fun g g1 g2 hg => by simp at hg; omega)).fr s2 f3
        have hsl := strongs_len (nth S.cells a).fs
        have hfl := hs.fl _ (nth_mem a0 a1)
        obtain ⟨v2, K3, t1, t2, t3, t4⟩ := app_n (bytes := 8) f3.wf (Nat.le_trans (by rw [s5]; exact hnk) f3.next) mt1 mr.sl (by simp) (Cell.all _) (by omega) (by omega)
        have os1 := ((s3.fr s2 f3).keeps f3.wf t3 fun g hg => by simp at hg; omega)
        have fr3 : Fr H K3 := (fr1.trans f3).step t2 t3 fun g hg => by omega
        have wy2 := wy.look ht
        have hfs := falses_set a0 hal hbf
        simp [t1]
        rw [x5]
        exact ⟨9 * falses (bs.set a.toNat true) + (rest ++ strongs (nth S.cells a).fs).length, by rw [List.length_append]; omega, x0, fr3, bs.set a.toNat true, os1, rest ++ strongs (nth S.cells a).fs, t4, Nat.le_trans hnk (by rw [← s5]; exact Nat.le_trans f3.next t3.next), wy2, rfl, by rw [List.length_append]; omega⟩
      · intro hb
        have hbt : nth bs a = true := by simpa using hb
        have wy2 := wy.skip hbt
        simp
        rw [x5]
        exact ⟨9 * falses bs + rest.length, by omega, x0, fr, bs, os, rest, mt', hnk, wy2, rfl, by omega⟩
    · intro hpos
      have : todo = [] := by
        cases todo with
        | nil => rfl
        | cons x r => simp at hpos
      subst this
      simp [x5]
      refine ⟨fr, bs, ⟨some H.next, os, fun g hg => by cases hg; exact Nat.le_refl _⟩, by rw [wy.len], fun a a0 a1 => wy.done hl ht a0 a1⟩
end
end Go.Am

/- Contracts: reached, Reached. -/
set_option linter.unusedVariables false
set_option linter.unusedSimpArgs false
namespace Go.Am
variable {T : Tab}
section
variable {k : Nat} {tg : Tags} {H : AHeap} {b : Nat} {lk : Int} {S : Hp} {fb m : Nat} {cv nv : AV} {fc fn : Option Nat} {xs : List (AV × Cel)} {ff : Nat → Option Nat}
/-- Which cells roots lead to. -/
theorem c367 (D : D367 T) (hw : WF H) (hk : TagOk tg H) (h : HpI k tg H b lk S fb m cv nv fc fn xs ff) (hs : Shp S.cells) (ht : ∀ c ∈ S.cells, ∀ t ∈ strongs c.fs, 0 ≤ t ∧ t < S.cells.length) (hr : ∀ e ∈ S.roots, 0 ≤ e.1 ∧ e.1 < S.cells.length) (hrl : S.roots.length ≤ 2 ^ 20) :
    Calls T 367 [.ptr (some (b, 0))] H fun r K => Fr H K ∧ ∃ bs : List Bool, Made encB 1 H.next K r bs ∧ bs.length = S.cells.length ∧ ∀ a : Int, 0 ≤ a → a < S.cells.length → (nth bs a = true ↔ ∃ r ∈ S.roots.map (·.1), Reach S.cells r a) := by
  refine Calls.fn D.pr D.fn ?_
  obtain ⟨st, hm, ok⟩ := h.mp
  have hml := h.mp.lt hw
  obtain ⟨H1, s1, f1, rg, hnx⟩ := rng_start hw hm ok
  obtain ⟨ω, hω⟩ := D.nxt
  simp [ir367, h.ldm]
  refine WC.of (Calls.prim (Q := fun v K => v = .ptr (some (H.next, 0)) ∧ K = H1) D.rng s1 ⟨rfl, rfl⟩) ?_
  rintro r K ⟨rfl, rfl⟩
  simp
  obtain ⟨bi, hbi⟩ : ∃ bi, H.next = bi := ⟨_, rfl⟩
  rw [hbi] at rg hnx
  rw [hbi]
  refine W_loop (fun (z : Nat) e X => e 0 = .ptr (some (b, 0)) ∧ e 9 = .ptr (some (bi, 0)) ∧ Fr H X ∧ K.next ≤ X.next ∧ ∃ V, Rg X bi m true (S.roots.map encE) st V ∧ rest_ st V = z ∧ ∃ ov, e 3 = ov ∧ ∃ ks : List Int, Made encI 1 (bi + 1) X ov ks ∧ V.map (·.2.1) = ks.map encI ∧ ks.length = V.length ∧ V.length + z ≤ S.roots.length) id (rest_ st []) ?_ ?_
  · exact ⟨by simp, by simp, f1, Nat.le_refl _, [], rg, rfl, _, rfl, [], .nil, rfl, rfl, by rw [show rest_ st [] = st.1.length by simp [rest_], ok.len]; simp⟩
  · rintro z e X ⟨x0, x9, fr, hle, V, rg, hz, ov, x3, ks, mo, hks, hkl, hVl⟩
    obtain ⟨X', w1, w2, hcase⟩ := rg.next (by omega) fr.wf ω
    have fr1 : Fr H X' := fr.step w1 w2 fun g hg => by omega
    have mo1 : Made encI 1 (bi + 1) X' ov ks := mo.keeps fr.wf w2 fun g g1 g2 hg => by omega
    rcases hcase with ⟨q1, q2⟩ | ⟨z0, q1, q2, q3, q4, q5⟩
    · simp [x9]
      refine WC.of (Calls.prim (Q := fun v Y => v = .tup [.bool false] ∧ Y = X') hω q1 ⟨rfl, rfl⟩) ?_
      rintro r Y ⟨rfl, rfl⟩
      have hi1 : HpI k tg Y b lk S fb m cv nv fc fn xs ff := h.keeps hw fr1.keeps fun g t hg htg => ⟨by omega, htg⟩
      have mem : ∀ a : Int, a ∈ ks ↔ a ∈ S.roots.map (·.1) := by
        intro a
        have e1 : a ∈ ks ↔ encI a ∈ V.map (·.2.1) := by
          rw [hks]
          constructor
          · exact fun hm => List.mem_map_of_mem hm
          · intro hm
            obtain ⟨x, hx, e⟩ := List.mem_map.1 hm
            have : x = a := by simpa [encI] using e
            rwa [← this]
        rw [e1, (q2.map _).mem_iff]
        have e2 : (List.zip st.1 (S.roots.map encE)).map (·.2.1) = (S.roots.map encE).map (·.1) := by
          have := List.map_snd_zip (l₁ := st.1) (l₂ := S.roots.map encE) (by rw [ok.len]; exact Nat.le_refl _)
          conv => rhs; rw [← this]
          rw [List.map_map]; rfl
        rw [e2]
        simp only [List.map_map, List.mem_map]
        constructor
        · rintro ⟨x, hx, e⟩; exact ⟨x, hx, by simpa [encE, encI] using e⟩
        · rintro ⟨x, hx, e⟩; exact ⟨x, hx, by simp [encE, encI, e]⟩
      simp [x0, x3]
      refine WC.of (c370 D.d370 fr1.wf (fun g hg => hk g (Nat.le_trans fr1.next hg)) hi1 hs ht mo1.sl (fun a ha => ?_) (by omega)) ?_
      · obtain ⟨e, he, rfl⟩ := List.mem_map.1 ((mem a).1 ha)
        exact hr e he
      · rintro r Z ⟨f5, bs, m5, l5, r5⟩
        simp
        refine ⟨fr1.trans f5, bs, m5.mono (by have := fr1.next; omega), l5, fun a a0 a1 => ?_⟩
        rw [r5 a a0 a1]
        simp only [mem]
        simp only [List.mem_map, Prod.exists, exists_and_right, exists_eq_right]
    · simp [x9]
      refine WC.of (Calls.prim (Q := fun v Y => v = .tup [.bool true, z0.2.1, z0.2.2] ∧ Y = X') hω q3 ⟨rfl, rfl⟩) ?_
      rintro r Y ⟨rfl, rfl⟩
      obtain ⟨c, key, val⟩ := z0
      have hz0 : (key, val) ∈ S.roots.map encE := (List.of_mem_zip q1).2
      obtain ⟨⟨ka, va⟩, he, hee⟩ := List.mem_map.1 hz0
      simp only [encE, Prod.mk.injEq] at hee
      obtain ⟨rfl, rfl⟩ := hee
      have hls := rg.less q1 q2
      have hb1 := wsem0_bsl1 (v := .int .i64 ka) (z := .int .i64 0) (H := Y) rfl
      obtain ⟨v', Y2, p1, p2, p3, p4⟩ := push_n (bytes := 8) fr1.wf (by have := fr1.next; have := w2.next; omega) mo1 ka (by omega) (by omega)
      simp [x0, x3, x9, q5, hb1, p1]
      exact ⟨rest_ st (V ++ [(c, .int .i64 ka, .int .i64 va)]), by omega, fr1.step p2 p3 fun g hg => by omega, by have := w2.next; have := p3.next; omega, V ++ [(c, .int .i64 ka, .int .i64 va)], q4.keeps p3 (by omega) (by omega), rfl, ks ++ [ka], p4, by simp [hks, encI], by simp [hkl], by simp only [List.length_append, List.length_singleton]; omega⟩
/-- What is known of a list of bools: which cells the roots lead to. -/
def Led (S : Hp) (bs : List Bool) : Prop := bs.length = S.cells.length ∧ ∀ a : Int, 0 ≤ a → a < S.cells.length → (nth bs a = true ↔ ∃ r ∈ S.roots.map (·.1), Reach S.cells r a)
theorem Made.free {tg : Tags} {H K : AHeap} {n : Nat} {v : AV} {l : List Int} (h : Made encI 1 n K v l) (hk : TagOk tg H) (hn : H.next ≤ n) : Free tg K n v l := by
  obtain ⟨f, h1, h2⟩ := h
  exact ⟨f, h1, fun g hg => ⟨h2 g hg, hk g (Nat.le_trans hn (h2 g hg))⟩⟩
theorem Free.mono {tg : Tags} {K : AHeap} {n m : Nat} {v : AV} {l : List Int} (h : Free tg K n v l) (hm : m ≤ n) : Free tg K m v l := by
  obtain ⟨f, h1, h2⟩ := h
  exact ⟨f, h1, fun g hg => ⟨Nat.le_trans hm (h2 g hg).1, (h2 g hg).2⟩⟩
/-- Which cells are lost. -/
def LostB (S : Hp) (bs cs : List Bool) : Prop := cs.length = bs.length ∧ ∀ a : Int, 0 ≤ a → a < bs.length → nth cs a = (!nth bs a && !(nth S.cells a).e)
theorem c334 (D : D334 T) (hw : WF H) (hk : TagOk tg H) (h : HpR k tg H b 0 S) (hs : Shp S.cells) (ht : ∀ c ∈ S.cells, ∀ t ∈ strongs c.fs, 0 ≤ t ∧ t < S.cells.length) (hr : ∀ e ∈ S.roots, 0 ≤ e.1 ∧ e.1 < S.cells.length) (hrl : S.roots.length ≤ 2 ^ 20) :
    Calls T 334 [.ptr (some (b, 0))] H fun r K => ∃ tg', Up k tg tg' H K ∧ HpR k tg' K b 0 S ∧ ∃ bs cs, Led S bs ∧ LostB S bs cs ∧ Free tg' K H.next r (numsTo cs cs.length) := by
  refine Calls.fnD D.pr D.fn ?_
  simp [ir334]
  refine WC.of (c357 D.d357 hw hk h) ?_
  rintro r K ⟨rfl, tg1, u1, h1⟩
  obtain ⟨fb, m, cv, nv, fc, fn, xs, ff, hi⟩ := h1
  simp
  refine WC.of (c367 D.d367 u1.wf u1.ok hi hs ht hr hrl) ?_
  rintro rv K1 ⟨f1, bs, m1, l1, r1⟩
  have hl100 := hs.len
  simp [m1.sl.len]
  refine W_loop (fun (z : Nat) e X => e 0 = .ptr (some (b, 0)) ∧ e 1048576 = .tup [.fn 381 [.ptr (some (b, 0))] []] ∧ e 3 = rv ∧ e 12 = .int .i64 bs.length ∧ ∃ j : Nat, z + j = bs.length ∧ e 13 = .int .i64 j ∧ Fr K X ∧ ∃ cs : List Bool, Made encB 1 K.next X rv cs ∧ cs.length = bs.length ∧ ∀ a : Int, 0 ≤ a → a < bs.length → nth cs a = if a < j then (!nth bs a && !(nth S.cells a).e) else nth bs a) id bs.length ?_ ?_
  · refine ⟨by simp, by simp, by simp, by simp, 0, by simp, by simp, f1, bs, m1, rfl, fun a a0 a1 => ?_⟩
    rw [if_neg (by omega)]
  · rintro z e X ⟨x0, xd, x3, x12, j, hj, x13, fX, cs, mo, hcl, hcs⟩
    simp [x0, x3, x12, x13]
    refine WB.dec ?_ ?_
    · intro hlt
      have hjl : (j : Int) < cs.length := by omega
      have ia := mo.sl.ia (k := .i64) (i := (j : Int)) (by omega) hjl
      have ld := mo.sl.ld (i := (j : Int)) (by omega) hjl
      have hnj : nth cs (j : Int) = nth bs (j : Int) := by rw [hcs j (by omega) (by omega), if_neg (by omega)]
      have hjS : (j : Int) < S.cells.length := by omega
      have hiX : HpI k tg1 X b 1 S fb m cv nv fc fn xs ff := hi.keeps u1.wf fX.keeps fun g t hg htg => ⟨by omega, htg⟩
      obtain ⟨bo, oo, e1, e2, e3, e4, e5, e6, _, _, _, _⟩ := hiX.cell fX.wf (fun g hg => u1.ok g (Nat.le_trans fX.next hg)) (i := (j : Int)) (by omega) hjS
      have iac := hiX.ia (kk := .i64) (i := (j : Int)) (by omega) hjS
      obtain ⟨X', s1, s2, s3, s4, s5⟩ := mo.st fX.wf (i := (j : Int)) (by omega) hjl (!nth bs (j : Int) && !(nth S.cells (j : Int)).e)
      have fin : ∃ q, q < z ∧ ∃ j', q + j' = bs.length ∧ IntKind.i64.wrap ((j : Int) + 1) = (j' : Int) ∧ Fr K X' ∧ ∃ cs : List Bool, Made encB 1 K.next X' rv cs ∧ cs.length = bs.length ∧ ∀ a : Int, 0 ≤ a → a < bs.length → nth cs a = if a < j' then (!nth bs a && !(nth S.cells a).e) else nth bs a := by
        refine ⟨z - 1, by omega, j + 1, by omega, by rw [wrap64 (by omega) (by omega)]; simp, fX.step s2 s3 fun g hg => hg, _, s4, by simp [hcl], fun a a0 a1 => ?_⟩
        rw [nth_set (by omega) hjl a0]
        by_cases ea : (j : Int) = a
        · subst ea; rw [if_pos rfl, if_pos (by simp; omega)]
        · rw [if_neg ea, hcs a a0 a1]
          by_cases hlt2 : a < (j : Int)
          · rw [if_pos hlt2, if_pos (by simp; omega)]
          · rw [if_neg hlt2, if_neg (by simp; omega)]
      cases hb : nth bs (j : Int) with
      | true =>
        rw [hb] at s1 hnj
        simp [encB] at s1
        simp [x0, x3, x12, x13, ia, ld, hnj, encB, s1, xd]
        exact fin
      | false =>
        rw [hb] at s1 hnj
        simp [encB] at s1
        simp [x0, x3, x12, x13, ia, ld, hnj, encB, hiX.ldc, iac, e1, e5, s1, xd]
        exact fin
    · intro hlt
      have hjl : j = bs.length := by omega
      subst hjl
      have hlb : LostB S bs cs := ⟨hcl, fun a a0 a1 => by rw [hcs a a0 a1, if_pos a1]⟩
      simp [x3]
      refine WC.of (c366 D.d366 fX.wf mo.sl (by omega)) ?_
      rintro r2 K2 ⟨f2, m2⟩
      have ff := fX.trans f2
      have u2 := u1.trans hw (Up.fr (k := k) u1.wf u1.ok ff)
      have h2 : HpR k tg1 K2 b 1 S := HpR.fr ⟨_, _, _, _, _, _, _, _, hi⟩ u1.wf ff
      have fr2 : Free tg1 K2 H.next r2 (numsTo cs cs.length) := (m2.free u1.ok fX.next).mono (Nat.le_trans u1.keeps.next fX.next)
      simp [xd]
      refine (unlock D.d357.d381 u2.wf u2.ok h2).imp ?_
      rintro Y ⟨tg3, u3, g3⟩
      exact ⟨tg3, u2.trans hw u3, g3, bs, ⟨l1, r1⟩, cs, hlb, fr2.up u2.wf u3⟩
end
end Go.Am

/- The plain law of the reference's leads. -/
set_option linter.unusedVariables false
set_option linter.unusedSimpArgs false
namespace Go.Am
/-- What a set leads to; first: in one step at least. -/
def From (cs : List Cel) (fr : List Bool) (first : Bool) (a : Int) : Prop :=
  ∃ r : Int, 0 ≤ r ∧ r < cs.length ∧ nth fr r = true ∧ if first = true then ∃ c ∈ strongs (nth cs r).fs, Reach cs c a else Reach cs r a
theorem From.step {cs : List Cel} {fr : List Bool} {first : Bool} {a t : Int} (h : From cs fr first a) (ht : t ∈ strongs (nth cs a).fs) : From cs fr first t := by
  obtain ⟨r, r0, r1, hr, hx⟩ := h
  refine ⟨r, r0, r1, hr, ?_⟩
  cases first with
  | true =>
    simp only [if_true] at hx ⊢
    obtain ⟨c, hc, hx⟩ := hx
    exact ⟨c, hc, hx.step ht⟩
  | false => simpa using (show Reach cs r a by simpa using hx).step ht
theorem From.one {cs : List Cel} {fr : List Bool} {first : Bool} {i t : Int} (i0 : 0 ≤ i) (i1 : i < cs.length) (hi : nth fr i = true) (ht : t ∈ strongs (nth cs i).fs) : From cs fr first t := by
  refine ⟨i, i0, i1, hi, ?_⟩
  cases first with
  | true => simp only [if_true]; exact ⟨t, ht, .refl t⟩
  | false => simpa using (Reach.refl (cs := cs) i).step ht
structure Lead (cs : List Cel) (fr : List Bool) (first : Bool) (bs : List Bool) : Prop where
  len : bs.length = cs.length
  sound : ∀ a : Int, 0 ≤ a → a < cs.length → nth bs a = true → From cs fr first a
  has : first = false → ∀ a : Int, 0 ≤ a → a < cs.length → nth fr a = true → nth bs a = true
theorem Lead.mark {cs : List Cel} {fr : List Bool} {first : Bool} {bs : List Bool} (h : Lead cs fr first bs) {i t : Int} (i0 : 0 ≤ i) (i1 : i < cs.length) (hi : nth fr i = true ∨ nth bs i = true) (ht : t ∈ strongs (nth cs i).fs) (t0 : 0 ≤ t) (t1 : t < cs.length) : Lead cs fr first (bs.set t.toNat true) := by
  have hs : ∀ x : Int, 0 ≤ x → nth (bs.set t.toNat true) x = if t = x then true else nth bs x := fun x hx => nth_set t0 (by rw [h.len]; exact t1) hx
  refine ⟨by simp [h.len], fun a a0 a1 ha => ?_, fun hf a a0 a1 ha => ?_⟩
  · rw [hs a a0] at ha
    by_cases e : t = a
    · subst e
      rcases hi with q | q
      · exact From.one i0 i1 q ht
      · exact (h.sound i i0 i1 q).step ht
    · rw [if_neg e] at ha; exact h.sound a a0 a1 ha
  · rw [hs a a0]
    split
    · rfl
    · exact h.has hf a a0 a1 ha
theorem Lead.done {cs : List Cel} {fr : List Bool} {first : Bool} {bs : List Bool} (h : Lead cs fr first bs) (ht : ∀ c ∈ cs, ∀ t ∈ strongs c.fs, 0 ≤ t ∧ t < cs.length)
    (hc : ∀ i : Int, 0 ≤ i → i < cs.length → nth fr i = true ∨ nth bs i = true → ∀ t ∈ strongs (nth cs i).fs, nth bs t = true) {a : Int} (a0 : 0 ≤ a) (a1 : a < cs.length) : nth bs a = true ↔ From cs fr first a := by
  refine ⟨h.sound a a0 a1, ?_⟩
  rintro ⟨r, r0, r1, hr, hx⟩
  have reach : ∀ c a : Int, 0 ≤ c → c < cs.length → nth bs c = true → Reach cs c a → 0 ≤ a ∧ a < cs.length ∧ nth bs a = true := by
    intro c a c0 c1 hb hx
    induction hx with
    | refl => exact ⟨c0, c1, hb⟩
    | step hab hcc ih =>
      obtain ⟨i0, i1, i2⟩ := ih
      obtain ⟨t0, t1⟩ := ht _ (nth_mem i0 i1) _ hcc
      exact ⟨t0, t1, hc _ i0 i1 (.inr i2) _ hcc⟩
  cases first with
  | true =>
    simp only [if_true] at hx
    obtain ⟨c, hcc, hx⟩ := hx
    obtain ⟨t0, t1⟩ := ht _ (nth_mem r0 r1) _ hcc
    exact (reach c a t0 t1 (hc r r0 r1 (.inl hr) c hcc) hx).2.2
  | false => exact (reach r a r0 r1 (h.has rfl r r0 r1 hr) (by simpa using hx)).2.2
end Go.Am
