/- Contract: Copy of the program. -/
import Derived.Test.YtpdedphkjkhddaaAmUps
import Derived.Test.YtpdedphkjkhddaaAmCpy
import Derived.Test.YtpdedphkjkhddaaAmHeapsX
set_option linter.unusedVariables false
set_option linter.unusedSimpArgs false
namespace Go.Am
variable {T : Tab}
theorem Up.put2 {k g : Nat} {tg tg1 : Tags} {H H' : AHeap} {t : Tag} (h : Up k tg tg1 H H') (hg : H.next ≤ g) (hg' : g < H'.next) : Up k tg (upd tg1 g (some (k, t))) H H' := by
  refine ⟨h.wf, fun i hi => ?_, h.keeps, fun i => ?_⟩
  · rw [upd_ne _ _ _ (by omega)]; exact h.ok i hi
  · by_cases e : i = g
    · subst e; exact .inr ⟨.inr hg, fun j t' ht => by rw [upd_same] at ht; simp at ht; exact ht.1.symm⟩
    · rw [upd_ne _ _ _ e]; exact h.tag i
/-- The heap while its cells' fields are copied: those from j on are still another's. -/
structure HpJ (k : Nat) (tg : Tags) (H : AHeap) (b : Nat) (S : Hp) (j : Nat) (fb m : Nat) (cv nv : AV) (fc fn : Option Nat) (xs : List (AV × Cel)) (ff : Nat → Option Nat) : Prop where
  box : Box H b fb [.int .i32 0, .int .u32 0, cv, .map (some m), nv]
  tb : tg fb = some (k, .str)
  cs : Own encC 5 H cv xs fc
  tc : ∀ g, fc = some g → tg g = some (k, .cells)
  ns : Own encI 1 H nv S.notes fn
  tn : ∀ g, fn = some g → tg g = some (k, .notes)
  xc : xs.map (·.2) = S.cells
  fs : ∀ i x, i < j → xs[i]? = some x → Own encF 3 H x.1 x.2.fs (ff i) ∧ ∀ g, ff i = some g → tg g = some (k, .fields i)
  mp : Mp H m (S.roots.map encE)
  tm : tg m = some (k, .roots)
section
variable {k : Nat} {tg tg' : Tags} {H H' : AHeap} {b j : Nat} {lk : Int} {S : Hp} {fb m : Nat} {cv nv : AV} {fc fn : Option Nat} {xs : List (AV × Cel)} {ff : Nat → Option Nat}
theorem HpJ.keeps (h : HpJ k tg H b S j fb m cv nv fc fn xs ff) (hw : WF H) {D : Nat → Prop} (hk : Keeps D H H') (hD : ∀ g t, g < H.next → tg g = some (k, t) → ¬D g ∧ tg' g = some (k, t)) : HpJ k tg' H' b S j fb m cv nv fc fn xs ff := by
  have l1 := hw.row_fam h.box.row
  have l2 := h.mp.lt hw
  refine ⟨h.box.keeps hw hk (hD _ _ l1 h.tb).1, (hD _ _ l1 h.tb).2, h.cs.keeps hw hk fun g hg => ?_, fun g hg => ?_, h.ns.keeps hw hk fun g hg => ?_, fun g hg => ?_, h.xc, fun i x hi hx => ?_, h.mp.keeps hk (hD _ _ l2 h.tm).1, (hD _ _ l2 h.tm).2⟩
  · subst hg; exact (hD _ _ (h.cs.2.lt hw) (h.tc _ rfl)).1
  · subst hg; exact (hD _ _ (h.cs.2.lt hw) (h.tc _ rfl)).2
  · subst hg; exact (hD _ _ (h.ns.2.lt hw) (h.tn _ rfl)).1
  · subst hg; exact (hD _ _ (h.ns.2.lt hw) (h.tn _ rfl)).2
  · obtain ⟨h1, h2⟩ := h.fs i x hi hx
    refine ⟨h1.keeps hw hk fun g hg => ?_, fun g hg => ?_⟩
    · have hl := h1.2; rw [hg] at hl
      exact (hD _ _ (hl.lt hw) (h2 g hg)).1
    · have hl := h1.2; rw [hg] at hl
      exact (hD _ _ (hl.lt hw) (h2 g hg)).2
theorem HpJ.len (h : HpJ k tg H b S j fb m cv nv fc fn xs ff) : xs.length = S.cells.length := by rw [← h.xc]; simp
theorem HpJ.done (h : HpJ k tg H b S j fb m cv nv fc fn xs ff) (hj : S.cells.length ≤ j) : HpI k tg H b 0 S fb m cv nv fc fn xs ff :=
  ⟨h.box, h.tb, h.cs, h.tc, h.ns, h.tn, h.xc, fun i x hx => h.fs i x (by have := (List.getElem?_eq_some_iff.1 hx).1; rw [h.len] at this; omega) hx, h.mp, h.tm⟩
theorem HpJ.ldc (h : HpJ k tg H b S j fb m cv nv fc fn xs ff) : rsem (.ld 1 false) [.ptr (some (b, 2))] H = some cv := by simp [rsem, AHeap.ld, h.box.row]
theorem HpJ.ldn (h : HpJ k tg H b S j fb m cv nv fc fn xs ff) : rsem (.ld 1 false) [.ptr (some (b, 4))] H = some nv := by simp [rsem, AHeap.ld, h.box.row]
theorem HpJ.ne (h : HpJ k tg H b S j fb m cv nv fc fn xs ff) {g g' : Nat} {t t' : Tag} (h1 : tg g = some (k, t)) (h2 : tg g' = some (k, t')) (hne : t ≠ t') : g ≠ g' := by
  intro e; subst e; rw [h1] at h2; simp at h2; exact hne h2
theorem HpI.other (h : HpI k tg H b lk S fb m cv nv fc fn xs ff) (hw : WF H) {j : Nat} (hj : k ≠ j) (hu : Up j tg tg' H H') : HpI k tg' H' b lk S fb m cv nv fc fn xs ff :=
  h.keeps hw hu.keeps fun g t hg ht => ⟨(hu.other hj hg ht).2, (hu.other hj hg ht).1⟩
/-- A cell's fields are a copy's now. -/
theorem HpJ.clone (h : HpJ k tg H b S j fb m cv nv fc fn xs ff) (hw : WF H) (hk : TagOk tg H) (hj : j < S.cells.length) {H1 : AHeap} {r : AV} (f : Fr H H1) (mr : Made encF 3 H.next H1 r (nth S.cells (j : Int)).fs) :
    ∃ bo oo H2 tg2 ff2, elt cv 5 (j : Int) = .ptr (some (bo, oo)) ∧ H1.st bo oo [r] = some H2 ∧ Up k tg tg2 H H2 ∧ HpJ k tg2 H2 b S (j + 1) fb m cv nv fc fn (xs.set j (r, nth S.cells (j : Int))) ff2 := by
  obtain ⟨fr, o1, o2⟩ := mr
  have hl := h.len
  -- the new tag
  obtain ⟨tg2, up1, ht2, hold⟩ : ∃ tg2 : Tags, Up k tg tg2 H H1 ∧ (∀ g, fr = some g → tg2 g = some (k, .fields j)) ∧ ∀ g, g < H.next → tg2 g = tg g := by
    have up0 : Up k tg tg H H1 := Up.fr hw hk f
    cases fr with
    | none => exact ⟨tg, up0, (by intro g hg; cases hg), fun _ _ => rfl⟩
    | some g =>
      have hge := o2 g rfl
      have hlt := o1.2.lt f.wf
      exact ⟨upd tg g (some (k, .fields j)), up0.put hge hlt, (by intro g' hg; cases hg; exact upd_same _ _ _), fun g' hg' => upd_ne _ _ _ (by omega)⟩
  have h1 : HpJ k tg2 H1 b S j fb m cv nv fc fn xs ff := h.keeps hw f.keeps fun g t hg ht => ⟨by omega, by rw [hold g hg]; exact ht⟩
  obtain ⟨bo, oo, e1, e2, e3⟩ := h1.cs.at f.wf (i := (j : Int)) (by omega) (by omega)
  have hx2 : (nth xs (j : Int)).2 = nth S.cells (j : Int) := by
    have a1 := nth_eq (l := xs) (i := (j : Int)) (by omega) (by omega)
    have a2 := nth_eq (l := xs.map (·.2)) (i := (j : Int)) (by omega) (by simp; omega)
    rw [List.getElem?_map, a1] at a2
    simp at a2
    rw [a2, h.xc]
  obtain ⟨H2, r1, r2, r3, r4, r5⟩ := e3 (r, nth S.cells (j : Int)) 0 [r] (by simpa using o1.1.form.1) (by simp) (by simp [encC, AV.cells, splice, hx2])
  rw [Int.toNat_natCast] at r3
  refine ⟨bo, oo, H2, tg2, fun i => if i = j then fr else ff i, e1, by simpa using r1, up1.trans hw (Up.oneO up1.ok h1.tc r2 r5 r4), ?_⟩
  refine ⟨h1.box.keeps f.wf r4 fun e => h1.ne (h1.tc _ e) h1.tb (by simp) rfl, h1.tb, r3, h1.tc, h1.ns.keeps f.wf r4 fun g hg e => h1.ne (h1.tc _ e) (h1.tn g hg) (by simp) rfl, h1.tn, ?_, ?_, h1.mp.keeps r4 fun e => h1.ne (h1.tc _ e) h1.tm (by simp) rfl, h1.tm⟩
  · rw [List.map_set, h.xc]
    have a := nth_eq (l := S.cells) (i := (j : Int)) (by omega) (by omega)
    rw [Int.toNat_natCast] at a
    exact setSame a
  · intro i x hi hx
    rw [List.getElem?_set] at hx
    by_cases e : i = j
    · subst e
      rw [if_pos rfl, if_pos (by omega)] at hx
      simp at hx
      subst hx
      simp only [if_pos]
      exact ⟨o1.keeps f.wf r4 fun g hg e => h1.ne (h1.tc _ e) (ht2 g hg) (by simp) rfl, ht2⟩
    · rw [if_neg (Ne.symm e)] at hx
      obtain ⟨q1, q2⟩ := h1.fs i x (by omega) hx
      simp only [if_neg e]
      exact ⟨q1.keeps f.wf r4 fun g hg e => h1.ne (h1.tc _ e) (q2 g hg) (by simp) rfl, q2⟩
end
theorem c362 (D : D362 T) {H : AHeap} (hw : WF H) {v : AV} {l : List Fld} (hv : Sl encF 3 H v l) (hl : l.length ≤ 2 ^ 30) : Calls T 362 [v] H fun r H' => Fr H H' ∧ Made encF 3 H.next H' r l := by
  refine Calls.fn D.pr D.fn ?_
  obtain ⟨p, sv, cap, rfl⟩ : ∃ p sv cap, v = .slc p sv l.length cap := by obtain ⟨_, p, sv, cap, e, _⟩ := hv; exact ⟨p, sv, cap, e⟩
  simp [ir362]
  refine WB.bool ?_ ?_
  · intro h
    simp at h
    subst h
    have : l = [] := by obtain ⟨_, p, sv, cap, e, _, h⟩ := hv; cases e; exact h
    subst this
    simp
    exact ⟨.refl hw, .nil⟩
  · intro h
    simp
    have e := hw.own_new (enc := encF) (sz := 3) (l := []) (cs := []) (cap := some 0) (by simp) (by simp) (by simp) (by simp)
    obtain ⟨v', H', q1, q2, q3⟩ := app_made (bytes := 16) hw.fr_new (⟨some H.next, e, by simp⟩ : Made encF 3 H.next (H.new []) _ []) (hv.fr hw hw.fr_new) (by simp) (fun y _ => by simp [encF, AV.cells, AV.cell]) (by simp; omega) (by simp; omega)
    simp at q1
    simp [q1]
    exact ⟨q2, q3⟩
theorem HpI.setRootK {k : Nat} {tg : Tags} {H : AHeap} {b : Nat} {lk : Int} {S : Hp} {fb m : Nat} {cv nv : AV} {fc fn : Option Nat} {xs : List (AV × Cel)} {ff : Nat → Option Nat} (h : HpI k tg H b lk S fb m cv nv fc fn xs ff) (hw : WF H) (hk : TagOk tg H) (a w : Int) :
    ∃ H', wsem0 (.mset .int) [.map (some m), .int .i64 a, .int .i64 w] H = some (.undef, H') ∧ WF H' ∧ Keeps (fun g => g = m) H H' ∧ HpI k tg H' b lk { S with roots := rset S.roots a w } fb m cv nv fc fn xs ff := by
  rcases rfind a S.roots 0 with ⟨j, x, h1, h2, h3, _⟩ | ⟨h1, h2, h3, _⟩
  · obtain ⟨H', q1, q2⟩ := h.mp.mset' hw (v := .int .i64 w) rfl h1
    rw [Nat.zero_add, h3] at q2
    exact ⟨H', q1, q2.wf, q2.keeps, (h.setMp hw hk q2).2.2⟩
  · obtain ⟨H', q1, q2⟩ := h.mp.mset hw (v := .int .i64 w) rfl h1
    rw [h3] at q2
    exact ⟨H', q1, q2.wf, q2.keeps, (h.setMp hw hk q2).2.2⟩
theorem mem_rset_self {es : List (Int × Int)} {k v : Int} : (k, v) ∈ rset es k v := by
  induction es with
  | nil => simp [rset]
  | cons e r ih =>
    obtain ⟨a, w⟩ := e
    unfold rset
    by_cases h : a = k
    · rw [if_pos h]; simp [h]
    · rw [if_neg h]; simp [ih]
theorem mem_rset_old {es : List (Int × Int)} {k v : Int} {e : Int × Int} (he : e ∈ es) (hk : e.1 ≠ k) : e ∈ rset es k v := by
  induction es with
  | nil => cases he
  | cons x r ih =>
    obtain ⟨a, w⟩ := x
    unfold rset
    rcases List.mem_cons.1 he with rfl | he
    · rw [if_neg hk]; simp
    · by_cases h : a = k
      · rw [if_pos h]; simp [he]
      · rw [if_neg h]; simp [ih he]
theorem keys_uniq {es : List (Int × Int)} (hk : Keys es) {x y : Int × Int} (hx : x ∈ es) (hy : y ∈ es) (e : x.1 = y.1) : x = y := by
  obtain ⟨i, hi, rfl⟩ := List.getElem_of_mem hx
  obtain ⟨j, hj, rfl⟩ := List.getElem_of_mem hy
  have nd : (es.map (·.1)).Nodup := hk
  have := (List.getElem_inj (xs := es.map (·.1)) (h₀ := by simpa using hi) (h₁ := by simpa using hj) nd).1 (by simpa using e)
  subst this; rfl
/-- A map that is filled from another one: V has come so far. -/
def Filled (rs es : List (Int × Int)) (V : List (Nat × AV × AV)) : Prop := Keys rs ∧ (∀ e ∈ rs, e ∈ es) ∧ ∀ x ∈ V, ∃ e ∈ rs, encE e = x.2
theorem Filled.put {rs es : List (Int × Int)} {V : List (Nat × AV × AV)} (hk : Keys es) (h : Filled rs es V) {ka va : Int} (he : (ka, va) ∈ es) (c : Nat) : Filled (rset rs ka va) es (V ++ [(c, .int .i64 ka, .int .i64 va)]) := by
  obtain ⟨h1, h2, h3⟩ := h
  refine ⟨h1.rset ka va, fun e hm => ?_, fun x hx => ?_⟩
  · rcases mem_rset_e e hm with rfl | hm
    · exact he
    · exact h2 e hm
  · rcases List.mem_append.1 hx with hx | hx
    · obtain ⟨e, e1, e2⟩ := h3 x hx
      by_cases hke : e.1 = ka
      · have : e = (ka, va) := keys_uniq hk (h2 e e1) he hke
        exact ⟨(ka, va), mem_rset_self, by rw [← this]; exact e2⟩
      · exact ⟨e, mem_rset_old e1 hke, e2⟩
    · rw [List.mem_singleton] at hx
      subst hx
      exact ⟨(ka, va), mem_rset_self, rfl⟩
section
variable {k k2 : Nat} {tg : Tags} {H : AHeap} {b : Nat} {S : Hp}
theorem c328 (D : D328 T) (hne : k ≠ k2) (hw : WF H) (hk : TagOk tg H) (h : HpR k tg H b 0 S) (hl : S.cells.length ≤ 100) (hfl : ∀ c ∈ S.cells, c.fs.length ≤ 8) (hnl : S.notes.length < 2 ^ 39) (hr : Keys S.roots) :
    Calls T 328 [.ptr (some (b, 0))] H fun r K => ∃ tg' b' rs, r = .ptr (some (b', 0)) ∧ Ups (fun j => j = k ∨ j = k2) tg tg' H K ∧ HpR k tg' K b 0 S ∧ HpR k2 tg' K b' 0 { S with roots := rs } ∧ Keys rs ∧ ∀ e, e ∈ rs ↔ e ∈ S.roots := by
  refine Calls.fnD D.pr D.fn ?_
  simp [ir328]
  refine WC.of (c357 D.d357 hw hk h) ?_
  rintro r K ⟨rfl, tg1, u1, h1⟩
  obtain ⟨fb, m, cv, nv, fc, fn, xs, ff, hi⟩ := h1
  have wK := u1.wf
  obtain ⟨n, hn⟩ : ∃ n, S.cells.length = n := ⟨_, rfl⟩
  obtain ⟨q, hq⟩ : ∃ q, S.notes.length = q := ⟨_, rfl⟩
  rw [hn] at hl
  rw [hq] at hnl
  have hlen := hi.lenC
  have hlenN := hi.lenN
  rw [hn] at hlen
  rw [hq] at hlenN
  -- the new rows
  have mk1 := wsem0_mks (bytes := 40) (n := n) (zero := [.slc none 0 0 none, .bool false, .bool false, .bool false, .int .i64 0]) (k := .i64) (l := .i64) (H := K) (by omega) (by simp) rfl (by omega)
  have ow1 := wK.own_new (enc := encC) (sz := 5) (l := List.replicate n (.slc none 0 0 none, (⟨[], false, false, false, 0⟩ : Cel))) (cs := (List.replicate n [AV.slc none 0 0 none, .bool false, .bool false, .bool false, .int .i64 0]).flatten) (cap := some n) (by intro x hx; rw [(List.mem_replicate.1 hx).2]; rfl) (by simp) (by simp) (by
    rw [List.take_of_length_le (by simp)]
    rw [List.flatMap_def, List.map_replicate]; rfl)
  simp only [List.length_replicate] at ow1
  have f1 := wK.fr_new (cs := (List.replicate n [AV.slc none 0 0 none, .bool false, .bool false, .bool false, .int .i64 0]).flatten)
  obtain ⟨X1, hX1⟩ : ∃ X, K.new (List.replicate n [AV.slc none 0 0 none, .bool false, .bool false, .bool false, .int .i64 0]).flatten = X := ⟨_, rfl⟩
  have n1 : X1.next = K.next + 1 := by rw [← hX1]; rfl
  rw [hX1] at mk1 ow1 f1
  simp only [List.length_cons, List.length_nil, Nat.zero_add] at mk1
  obtain ⟨w2, mp2, k2'⟩ := f1.wf.newMap
  have f2 : Fr X1 X1.newMap := ⟨w2, k2' _⟩
  obtain ⟨X2, hX2⟩ : ∃ X, X1.newMap = X := ⟨_, rfl⟩
  have n2 : X2.next = K.next + 2 := by rw [← hX2]; show X1.next + 1 = _; omega
  rw [hX2] at w2 mp2 f2
  have mk3 := wsem0_mks (bytes := 8) (n := q) (zero := [AV.int .i64 0]) (k := .i64) (l := .i64) (H := X2) (by omega) (by simp) rfl (by omega)
  have ow3 := w2.own_new (enc := encI) (sz := 1) (l := List.replicate q (0 : Int)) (cs := (List.replicate q [AV.int .i64 0]).flatten) (cap := some q) (by intro x hx; rfl) (by simp) (by simp) (by
    rw [List.take_of_length_le (by simp)]
    rw [List.flatMap_def, List.map_replicate]; rfl)
  simp only [List.length_replicate] at ow3
  have f3 := w2.fr_new (cs := (List.replicate q [AV.int .i64 0]).flatten)
  obtain ⟨X3, hX3⟩ : ∃ X, X2.new (List.replicate q [AV.int .i64 0]).flatten = X := ⟨_, rfl⟩
  have n3 : X3.next = K.next + 3 := by rw [← hX3]; show X2.next + 1 = _; omega
  rw [hX3] at mk3 ow3 f3
  simp only [List.length_cons, List.length_nil, Nat.zero_add] at mk3
  obtain ⟨cv2, hcv2⟩ : ∃ c, AV.slc (some (K.next, 0)) 5 n (some n) = c := ⟨_, rfl⟩
  obtain ⟨nv2, hnv2⟩ : ∃ c, AV.slc (some (X2.next, 0)) 1 q (some q) = c := ⟨_, rfl⟩
  have hcvc : cv2.cell = true := by rw [← hcv2]; rfl
  have hnvc : nv2.cell = true := by rw [← hnv2]; rfl
  rw [hcv2] at mk1 ow1
  rw [hnv2] at mk3 ow3
  have hbld : psem (.bld [.int .i32 0, .int .u32 0, .slc none 0 0 none, .map none, .slc none 0 0 none] [(2, 1), (3, 1), (4, 1)]) [cv2, .map (some X1.next), nv2] = some (.agg [.int .i32 0, .int .u32 0, cv2, .map (some X1.next), nv2]) := by
    rw [← hcv2, ← hnv2]
    simp [psem_bld', fill, AV.cells, AV.cell, splice]
  have bx4 := Box.new (H := X3) (cs := [.int .i32 0, .int .u32 0, cv2, .map (some X1.next), nv2])
  have f4 := f3.wf.fr_new (cs := [.int .i32 0, .int .u32 0, cv2, .map (some X1.next), nv2])
  obtain ⟨X4, hX4⟩ : ∃ X, X3.new [.int .i32 0, .int .u32 0, cv2, .map (some X1.next), nv2] = X := ⟨_, rfl⟩
  have n4 : X4.next = K.next + 4 := by rw [← hX4]; show X3.next + 1 = _; omega
  rw [hX4] at bx4 f4
  obtain ⟨b2, hb2⟩ : ∃ x, X3.next = x := ⟨_, rfl⟩
  obtain ⟨m2, hm2⟩ : ∃ x, X1.next = x := ⟨_, rfl⟩
  rw [hm2] at hbld bx4 mp2 hX4
  rw [hb2] at bx4
  have hi1 := hi.keeps (tg' := tg1) wK f1.keeps fun g t hg htg => ⟨by omega, htg⟩
  have hi2 := hi1.keeps (tg' := tg1) f1.wf f2.keeps fun g t hg htg => ⟨by omega, htg⟩
  have hi3 := hi2.keeps (tg' := tg1) w2 f3.keeps fun g t hg htg => ⟨by omega, htg⟩
  have hi4 := hi3.keeps (tg' := tg1) f3.wf f4.keeps fun g t hg htg => ⟨by omega, htg⟩
  -- tags for them
  have fK4 : Fr K X4 := ((f1.trans f2).trans f3).trans f4
  have b2K : K.next ≤ b2 ∧ b2 < X4.next := by omega
  have m2K : K.next ≤ m2 ∧ m2 < X4.next := by omega
  have up4 : Up k2 tg1 tg1 K X4 := Up.fr wK u1.ok fK4
  have upa := Up.put2 up4 (g := K.next) (t := .cells) (Nat.le_refl _) (by omega)
  have upb := Up.put2 upa (g := m2) (t := .roots) m2K.1 m2K.2
  have upc := Up.put2 upb (g := X2.next) (t := .notes) (by omega) (by omega)
  have up5 := Up.put2 upc (g := b2) (t := .str) b2K.1 b2K.2
  obtain ⟨tg5, htg5⟩ : ∃ t, upd (upd (upd (upd tg1 K.next (some (k2, .cells))) m2 (some (k2, .roots))) X2.next (some (k2, .notes))) b2 (some (k2, .str)) = t := ⟨_, rfl⟩
  have t1 : tg5 K.next = some (k2, .cells) := by rw [← htg5, upd_ne _ _ _ (by omega), upd_ne _ _ _ (by omega), upd_ne _ _ _ (by omega), upd_same]
  have t2 : tg5 m2 = some (k2, .roots) := by rw [← htg5, upd_ne _ _ _ (by omega), upd_ne _ _ _ (by omega), upd_same]
  have t3 : tg5 X2.next = some (k2, .notes) := by rw [← htg5, upd_ne _ _ _ (by omega), upd_same]
  have t4 : tg5 b2 = some (k2, .str) := by rw [← htg5, upd_same]
  rw [htg5] at up5
  -- the cells and notes are copied
  have cs4 := ((ow1.fr f1.wf f2).fr w2 f3).fr f3.wf f4
  have ns4 := ow3.fr f3.wf f4
  have mp4 := (mp2.keeps f3.keeps (by omega)).keeps f4.keeps (by omega)
  have hxl : xs.length = n := by rw [hi.len, hn]
  obtain ⟨X5, p1, p2, p3, p4, p5⟩ := cs4.cpy f4.wf hi4.cs.1 (by simp [hxl]) (by simp) (fun y hy => by
    obtain ⟨i, hi', rfl⟩ := mem_nth hy
    have := (hi4.fs i _ (by have := nth_eq (l := xs) (i := (i : Int)) (by omega) (by omega); simpa using this)).1.1.form.1
    simp only [encC, AV.cells, List.all_cons, List.all_nil, this]; rfl)
  have ns5 := ns4.keeps f4.wf p4 fun g hg e => by have hg := Option.some.inj hg; have e := Option.some.inj e; omega
  have mp5 := mp4.keeps p4 fun e => by have e := Option.some.inj e; omega
  have bx5 := bx4.keeps f4.wf p4 fun e => by have e := Option.some.inj e; omega
  have hi5 := hi4.keeps (tg' := tg1) f4.wf p4 fun g t hg htg => ⟨(fun e => by have e := Option.some.inj e; rw [← e, u1.ok _ (Nat.le_refl _)] at htg; cases htg), htg⟩
  obtain ⟨X6, s1, s2, s3, s4, s5⟩ := ns5.cpy p2 hi5.ns.1 (by simp [hq]) (by simp) (fun y _ => rfl)
  have cs6 := p3.keeps p2 s4 fun g hg e => by have hg := Option.some.inj hg; have e := Option.some.inj e; omega
  have mp6 := mp5.keeps s4 fun e => by have e := Option.some.inj e; omega
  have bx6 := bx5.keeps p2 s4 fun e => by have e := Option.some.inj e; omega
  have up6 : Up k2 tg1 tg5 K X6 := (up5.trans wK (Up.oneO up5.ok (f := some K.next) (t := .cells) (fun g hg => by have hg := Option.some.inj hg; rw [← hg]; exact t1) p2 p5 p4)).trans wK (Up.oneO (up5.trans wK (Up.oneO up5.ok (f := some K.next) (t := .cells) (fun g hg => by have hg := Option.some.inj hg; rw [← hg]; exact t1) p2 p5 p4)).ok (f := some X2.next) (t := .notes) (fun g hg => by have hg := Option.some.inj hg; rw [← hg]; exact t3) s2 s5 s4)
  have hj0 : HpJ k2 tg5 X6 b2 { S with roots := [] } 0 b2 m2 cv2 nv2 (some K.next) (some X2.next) xs (fun _ => none) :=
    ⟨bx6, t4, cs6, fun g hg => by have hg := Option.some.inj hg; rw [← hg]; exact t1, s3, fun g hg => by have hg := Option.some.inj hg; rw [← hg]; exact t3, hi.xc, fun i x hi' => by omega, mp6, t2⟩
  have ldc4 : rsem (.ld 1 false) [.ptr (some (b2, 2))] X4 = some cv2 := by simp [rsem, AHeap.ld, bx4.row]
  have ldn5 : rsem (.ld 1 false) [.ptr (some (b2, 4))] X5 = some nv2 := by simp [rsem, AHeap.ld, bx5.row]
  have ldc5 : rsem (.ld 1 false) [.ptr (some (b2, 2))] X5 = some cv2 := by simp [rsem, AHeap.ld, bx5.row]
  have ldn6 : rsem (.ld 1 false) [.ptr (some (b2, 4))] X6 = some nv2 := by simp [rsem, AHeap.ld, bx6.row]
  simp
  refine W_floats ?_
  simp [hi.ldc, hlen, mk1, hX2, hm2, hi2.ldn, hlenN, mk3, hbld, AV.cells, AV.cell, hcvc, hnvc, hX4, hb2]
  simp [floatOk, wanted, AV.same_refl, hi.ldc, hi.ldn, hi1.ldn, hi2.ldn, hi3.ldn, hi4.ldn, hi1.ldc, hi2.ldc, hi3.ldc, hi4.ldc]
  refine ⟨⟨by rw [← hcv2], by rw [← hnv2]⟩, ?_⟩
  simp [ldc4, hi4.ldc, p1, ldn5, hi5.ldn, s1, ldc5]
  have hlen2 : psem .len [cv2] = some (.int .i64 n) := by rw [cs6.1.len, hxl]
  simp [hj0.ldc, hlen2]
  -- the fields are copied, cell by cell
  refine W_loop (fun (z : Nat) e X => e 0 = .ptr (some (b, 0)) ∧ e 1048576 = .tup [.fn 381 [.ptr (some (b, 0))] []] ∧ e 3 = .ptr (some (b2, 0)) ∧ e 48 = .int .i64 n ∧ ∃ j : Nat, z + j = n ∧ e 49 = .int .i64 j ∧ ∃ tg2 ys ff2, Up k2 tg1 tg2 K X ∧ HpJ k2 tg2 X b2 { S with roots := [] } j b2 m2 cv2 nv2 (some K.next) (some X2.next) ys ff2 ∧ ∀ i : Nat, j ≤ i → i < n → nth ys (i : Int) = nth xs (i : Int)) id n ?_ ?_
  · exact ⟨by simp, by simp, by simp, by simp, 0, by simp, by simp, tg5, xs, _, up6, hj0, fun i _ _ => rfl⟩
  · rintro z e X ⟨x0, xd, x3, x48, j, hj, x49, tg2, ys, ff2, uX, hJ, hys⟩
    have hiX := hi.other wK hne uX
    simp [x0, xd, x3, x48, x49]
    refine WB.dec ?_ ?_
    · intro hlt
      have hjn : j < n := by omega
      have jS : (j : Int) < S.cells.length := by omega
      have wX := uX.wf
      have iaJ := hJ.cs.1.ia (k := .i64) (i := (j : Int)) (by omega) (by rw [hJ.len]; exact jS)
      obtain ⟨bo, oo, e1, e2, _⟩ := hJ.cs.at wX (i := (j : Int)) (by omega) (by rw [hJ.len]; exact jS)
      have l0 := e2 0 1 (by omega)
      simp only [encC, AV.cells, Nat.add_zero, List.drop_zero] at l0
      have ld0 : rsem (.ld 1 false) [.ptr (some (bo, oo))] X = some (nth ys (j : Int)).1 := by simp [rsem, l0]
      rw [hys j (Nat.le_refl _) hjn] at ld0
      have hfS := hiX.fld (i := (j : Int)) (by omega) jS
      have hf8 := hfl _ (nth_mem (l := S.cells) (i := (j : Int)) (by omega) jS)
      simp [x0, xd, x3, x48, x49]
      refine W_floats ?_
      simp [x3, hJ.ldc, iaJ, e1, ld0]
      refine WC.of (c362 D.d362 wX hfS (by omega)) ?_
      rintro r X' ⟨fX, mr⟩
      obtain ⟨bo', oo', Y, tgY, ffY, g1, g2, g3, g4⟩ := hJ.clone wX uX.ok (j := j) (by show j < S.cells.length; omega) fX (by simpa using mr)
      rw [e1] at g1
      have hbo : bo' = bo ∧ oo' = oo := by simpa [eq_comm] using g1
      obtain ⟨rfl, rfl⟩ := hbo
      have hst : wsem0 (.st 1) [.ptr (some (bo', oo')), r] X' = some (.undef, Y) := by
        have hv : r.cells = [r] := by have := mr.sl.form.1; cases r <;> simp_all [AV.cells, AV.cell]
        simp [wsem0_st, hv, g2]
      have hJ' := hJ.keeps (tg' := tg2) wX fX.keeps fun g t hg htg => ⟨by omega, htg⟩
      simp [iaJ, e1, hst]
      simp [floatOk, wanted, AV.same_refl, hJ.ldc, hJ'.ldc, g4.ldc, x0, xd, x3, x48, x49]
      refine ⟨z - 1, by omega, j + 1, by omega, by rw [wrap64 (by omega) (by omega)]; simp, tgY, uX.trans wK g3, _, ⟨ffY, g4⟩, fun i hi1 hi2 => ?_⟩
      have := nth_set (l := ys) (i := (j : Int)) (j := (i : Int)) (x := (r, nth S.cells (j : Int))) (by omega) (by rw [hJ.len]; exact jS) (by omega)
      rw [Int.toNat_natCast] at this
      show nth (ys.set j (r, nth S.cells (j : Int))) (i : Int) = _
      rw [this, if_neg (by omega)]
      exact hys i (by omega) hi2
    · intro hlt
      have hjn : j = n := by omega
      subst hjn
      have hI := hJ.done (by rw [← hn]; exact Nat.le_refl _)
      have wX := uX.wf
      have hm2X := hI.mp.lt wX
      -- the roots
      obtain ⟨st, hm, ok⟩ := hiX.mp
      have hml := hiX.mp.lt wX
      obtain ⟨X9, g1, f9, rg, hnx⟩ := rng_start wX hm ok
      obtain ⟨ω, hω⟩ := D.nxt
      simp [x0, hiX.ldm]
      refine WC.of (Calls.prim (Q := fun v K => v = .ptr (some (X.next, 0)) ∧ K = X9) D.rng g1 ⟨rfl, rfl⟩) ?_
      rintro r K9 ⟨rfl, rfl⟩
      obtain ⟨bi, hbi⟩ : ∃ bi, X.next = bi := ⟨_, rfl⟩
      rw [hbi] at rg hnx
      have hI9 := hI.keeps (tg' := tg2) wX f9.keeps fun g t hg htg => ⟨by omega, htg⟩
      have hi9 := hiX.keeps (tg' := tg2) wX f9.keeps fun g t hg htg => ⟨by omega, htg⟩
      have hbt : tg2 bi = none := uX.ok _ (by omega)
      have ok9 : TagOk tg2 K9 := fun g hg => uX.ok g (Nat.le_trans f9.next hg)
      have hmm : m ≠ m2 := by
        intro e
        have q1 := hi9.tm
        have q2 := hI9.tm
        rw [e, q2] at q1
        simp at q1
        exact hne q1.symm
      rw [hbi]
      simp
      refine W_loop (fun (z : Nat) e Z => e 1048576 = .tup [.fn 381 [.ptr (some (b, 0))] []] ∧ e 3 = .ptr (some (b2, 0)) ∧ e 73 = .ptr (some (bi, 0)) ∧ WF Z ∧ Keeps (fun g => g = m2 ∨ X.next ≤ g) X Z ∧ ∃ V, Rg Z bi m true (S.roots.map encE) st V ∧ rest_ st V = z ∧ ∃ rs, HpI k2 tg2 Z b2 0 { S with roots := rs } b2 m2 cv2 nv2 (some K.next) (some X2.next) ys ff2 ∧ Filled rs S.roots V) id (rest_ st []) ?_ ?_
      · exact ⟨by simp [xd], by simp [x3], by simp, f9.wf, f9.keeps.mono fun g hg => .inr hg, [], rg, rfl, [], hI9, by simp [Filled, Keys]⟩
      · rintro z e Z ⟨xd, x3, x73, wZ, kZ, V, rg, hz, rs, hI, hfi⟩
        obtain ⟨hks, hsub, hV⟩ := hfi
        obtain ⟨Z1, w1, w2, hcase⟩ := rg.next (by omega) wZ ω
        have hI1 := hI.keeps (tg' := tg2) wZ w2 fun g t hg htg => ⟨(fun e => by subst e; rw [hbt] at htg; cases htg), htg⟩
        have kZ1 : Keeps (fun g => g = m2 ∨ X.next ≤ g) X Z1 := kZ.trans (w2.mono fun g hg => .inr (by omega))
        rcases hcase with ⟨q1, q2⟩ | ⟨z0, q1, q2, q3, q4, q5⟩
        · simp [x73]
          refine WC.of (Calls.prim (Q := fun v Y => v = .tup [.bool false] ∧ Y = Z1) hω q1 ⟨rfl, rfl⟩) ?_
          rintro r Y ⟨rfl, rfl⟩
          have mem : ∀ e : Int × Int, e ∈ rs ↔ e ∈ S.roots := by
            intro e
            refine ⟨hsub e, fun he => ?_⟩
            have e2 : (List.zip st.1 (S.roots.map encE)).map (·.2) = S.roots.map encE := List.map_snd_zip (by rw [ok.len]; exact Nat.le_refl _)
            have : encE e ∈ (List.zip st.1 (S.roots.map encE)).map (·.2) := by rw [e2]; exact List.mem_map_of_mem he
            obtain ⟨x, hx, hxe⟩ := List.mem_map.1 this
            obtain ⟨e', he', hee⟩ := hV x (q2.mem_iff.2 hx)
            rw [hxe] at hee
            have : e' = e := by
              obtain ⟨a, c⟩ := e; obtain ⟨a', c'⟩ := e'
              simpa [encE] using hee
            rwa [← this]
          have uZ : Up k2 tg2 tg2 X Y := ⟨w1, fun g hg => uX.ok g (Nat.le_trans kZ1.next hg), Keeps.drop wX (kZ1.mono fun g hg => by
            rcases hg with hg | hg
            · subst hg; exact .inl ⟨_, hI9.tm⟩
            · exact .inr hg), fun _ => .inl rfl⟩
          have uK := uX.trans wK uZ
          have hiY := hi.other wK hne uK
          have us1 : Ups (fun j => j = k ∨ j = k2) tg tg2 H Y := (Ups.of u1 (.inl rfl)).trans hw (Ups.of uK (.inr rfl))
          simp [x3, xd]
          refine (unlock D.d357.d381 uK.wf uK.ok ⟨_, _, _, _, _, _, _, _, hiY⟩).imp ?_
          rintro V3 ⟨tg3, u3, g3⟩
          exact ⟨tg3, us1.trans hw (Ups.of u3 (.inl rfl)), g3, rs, HpR.other ⟨_, _, _, _, _, _, _, _, hI1⟩ uK.wf (Ne.symm hne) u3, hks, fun x y => mem (x, y)⟩
        · simp [x73]
          refine WC.of (Calls.prim (Q := fun v Y => v = .tup [.bool true, z0.2.1, z0.2.2] ∧ Y = Z1) hω q3 ⟨rfl, rfl⟩) ?_
          rintro r Y ⟨rfl, rfl⟩
          obtain ⟨c, key, val⟩ := z0
          have hz0 : (key, val) ∈ S.roots.map encE := (List.of_mem_zip q1).2
          obtain ⟨⟨ka, va⟩, he, hee⟩ := List.mem_map.1 hz0
          simp only [encE, Prod.mk.injEq] at hee
          obtain ⟨rfl, rfl⟩ := hee
          have hls := rg.less q1 q2
          obtain ⟨Y2, s1, s2, s3, s4⟩ := hI1.setRootK w1 (fun g hg => uX.ok g (Nat.le_trans kZ1.next hg)) ka va
          simp [x73, q5, x3, hI1.ldm, s1]
          exact ⟨_, by omega, xd, s2, kZ1.trans (s3.mono fun g hg => .inl hg), V ++ [(c, .int .i64 ka, .int .i64 va)], q4.keeps s3 (by omega) hmm, rfl, _, s4, Filled.put hr ⟨hks, hsub, hV⟩ he c⟩
end
end Go.Am
