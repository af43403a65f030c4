/- The reference's reached, Reached, Lost. -/
import Derived.Test.YtpdedphkjkhddaaAmRefG
set_option linter.unusedVariables false
set_option linter.unusedSimpArgs false
namespace Go.Am
variable {T : Tab}
/-- What is asked of the cells: not too many, references in range, ended cells refer to none. -/
structure Graph (cs : List Cel) : Prop where
  shp : Shp cs
  to : ∀ c ∈ cs, ∀ t ∈ strongs c.fs, 0 ≤ t ∧ t < cs.length
  dry : ∀ i : Int, 0 ≤ i → i < cs.length → (nth cs i).e = true → strongs (nth cs i).fs = []
/-- Which cells the reference's roots lead to. -/
def LedQ (S : Rp) (bs : List Bool) : Prop := bs.length = S.cells.length ∧ ∀ a : Int, 0 ≤ a → a < S.cells.length → (nth bs a = true ↔ ∃ r : Int, 0 ≤ r ∧ r < S.cells.length ∧ 0 < (nth S.cells r).n ∧ Reach S.cells r a)
section
variable {k : Nat} {tg : Tags} {H : AHeap} {b : Nat} {S : Rp} {fb : Nat} {cv nv : AV} {fc fn : Option Nat} {xs : List (AV × Cel)} {ff : Nat → Option Nat}
theorem c369 (D : D369 T) (hw : WF H) (hk : TagOk tg H) (h : RpI k tg H b S fb cv nv fc fn xs ff) (g : Graph S.cells) :
    Calls T 369 [.ptr (some (b, 0))] H fun r K => Fr H K ∧ ∃ bs : List Bool, Made encB 1 H.next K r bs ∧ LedQ S bs := by
  refine Calls.fn D.pr D.fn ?_
  obtain ⟨n, hn⟩ : ∃ n, S.cells.length = n := ⟨_, rfl⟩
  have hn100 : n ≤ 100 := by rw [← hn]; exact g.shp.len
  have hmk := wsem0_mks (bytes := 1) (n := n) (zero := [AV.bool false]) (k := .i64) (l := .i64) (H := H) (by omega) (by simp) rfl (by omega)
  have ow := hw.own_new (enc := encB) (sz := 1) (l := List.replicate n false) (cs := (List.replicate n [AV.bool false]).flatten) (cap := some n) (by intro x _; rfl) (by simp) (by simp) (by
    rw [flat_bools]
    rw [List.take_of_length_le]
    rw [flat_len (sz := 1) (by intro x _; rfl)]
    simp)
  simp only [List.length_replicate] at ow
  have f1 := hw.fr_new (cs := (List.replicate n [AV.bool false]).flatten)
  obtain ⟨H1, hH1⟩ : ∃ H1, H.new (List.replicate n [AV.bool false]).flatten = H1 := ⟨_, rfl⟩
  rw [hH1] at hmk ow f1
  have hlen := h.lenC
  rw [hn] at hlen
  simp only [List.length_cons, List.length_nil] at hmk
  have m1 : Made encB 1 H.next H1 _ (List.replicate n false) := ⟨some H.next, ow, fun g hg => by cases hg; exact Nat.le_refl _⟩
  obtain ⟨sv, hsv⟩ : ∃ sv, AV.slc (some (H.next, 0)) 1 n (some n) = sv := ⟨_, rfl⟩
  rw [hsv] at m1
  simp only [Nat.zero_add] at hmk
  rw [hsv] at hmk
  simp [ir369, h.ldc, hlen, hmk]
  refine W_loop (fun (z : Nat) e X => e 0 = .ptr (some (b, 0)) ∧ e 3 = sv ∧ Fr H X ∧ ∃ j : Nat, z + j = n ∧ e 4 = .int .i64 j ∧ ∃ cs : List Bool, Made encB 1 H.next X sv cs ∧ cs.length = n ∧ ∀ a : Int, 0 ≤ a → a < j → nth cs a = decide (0 < (nth S.cells a).n)) id n ?_ ?_
  · exact ⟨by simp, by simp, f1, 0, by simp, by simp, _, m1, by simp, fun a a0 a1 => by omega⟩
  · rintro z e X ⟨x0, x3, fX, j, hj, x4, cs, mc, hcl, hcs⟩
    have hX : RpI k tg X b S fb cv nv fc fn xs ff := h.fr hw fX
    have kX : TagOk tg X := fun g hg => hk g (Nat.le_trans fX.next hg)
    have hlX := hX.lenC
    rw [hn] at hlX
    simp [x0, x3, x4, hX.ldc, hlX]
    refine WB.dec ?_ ?_
    · intro hlt
      have jS : (j : Int) < S.cells.length := by omega
      have jc : (j : Int) < cs.length := by omega
      have ias := mc.sl.ia (k := .i64) (i := (j : Int)) (by omega) jc
      obtain ⟨bo, oo, e1, e2, e3, e4, e5, e6, _⟩ := hX.cell fX.wf kX (i := (j : Int)) (by omega) jS
      have iac := hX.ia (kk := .i64) (i := (j : Int)) (by omega) jS
      obtain ⟨X', s1, s2, s3, s4, s5⟩ := mc.st fX.wf (i := (j : Int)) (by omega) jc (decide (0 < (nth S.cells (j : Int)).n))
      simp only [encB] at s1
      simp [x0, x3, x4, hX.ldc, iac, e1, e6, ias, s1]
      refine ⟨z - 1, by omega, fX.step s2 s3 fun g hg => hg, j + 1, by omega, by rw [wrap64 (by omega) (by omega)]; simp, _, s4, by simp [hcl], fun a a0 a1 => ?_⟩
      rw [nth_set (by omega) jc a0]
      by_cases ea : (j : Int) = a
      · subst ea; rw [if_pos rfl]
      · rw [if_neg ea]; exact hcs a a0 (by simp at a1; omega)
    · intro hlt
      have hjn : j = n := by omega
      subst hjn
      simp [x0, x3]
      refine WC.of (c372 D.d372 fX.wf kX hX g.shp g.to g.dry mc.sl (by rw [hcl, hn])) ?_
      rintro r K ⟨f5, bs, m5, l5, r5⟩
      simp
      refine ⟨fX.trans f5, bs, m5.mono fX.next, l5, fun a a0 a1 => ?_⟩
      rw [r5 a a0 a1]
      unfold From
      constructor
      · rintro ⟨r, r0, r1, hr, hx⟩
        rw [hcs r r0 (by omega)] at hr
        exact ⟨r, r0, r1, by simpa using hr, by simpa using hx⟩
      · rintro ⟨r, r0, r1, hr, hx⟩
        exact ⟨r, r0, r1, by rw [hcs r r0 (by omega)]; simpa using hr, by simpa using hx⟩
theorem c333 (D : D333 T) (hw : WF H) (hk : TagOk tg H) (h : RpI k tg H b S fb cv nv fc fn xs ff) (g : Graph S.cells) :
    Calls T 333 [.ptr (some (b, 0))] H fun r K => Fr H K ∧ ∃ bs : List Bool, LedQ S bs ∧ Made encI 1 H.next K r (numsTo bs bs.length) := by
  refine Calls.fn D.pr D.fn ?_
  simp [ir333]
  refine WC.of (c369 D.d369 hw hk h g) ?_
  rintro r K ⟨f1, bs, m1, l1⟩
  have := g.shp.len
  have hl := l1.1
  simp
  refine WC.of (c368 D.d368 f1.wf m1.sl (by omega)) ?_
  rintro r K2 ⟨f2, m2⟩
  simp
  exact ⟨f1.trans f2, bs, l1, m2.mono f1.next⟩
theorem c335 (D : D335 T) (hw : WF H) (hk : TagOk tg H) (h : RpI k tg H b S fb cv nv fc fn xs ff) (g : Graph S.cells) :
    Calls T 335 [.ptr (some (b, 0))] H fun r K => Fr H K ∧ ∃ bs cs : List Bool, LedQ S bs ∧ LostB S.hp bs cs ∧ Made encI 1 H.next K r (numsTo cs cs.length) := by
  refine Calls.fn D.pr D.fn ?_
  simp [ir335]
  refine WC.of (c369 D.d369 hw hk h g) ?_
  rintro rv K1 ⟨f1, bs, m1, l1, r1⟩
  have hl100 := g.shp.len
  simp
  refine W_loop (fun (z : Nat) e X => e 0 = .ptr (some (b, 0)) ∧ e 3 = rv ∧ ∃ j : Nat, z + j = bs.length ∧ e 4 = .int .i64 j ∧ Fr H X ∧ ∃ cs : List Bool, Made encB 1 H.next X rv cs ∧ cs.length = bs.length ∧ ∀ a : Int, 0 ≤ a → a < bs.length → nth cs a = if a < j then (!nth bs a && !(nth S.cells a).e) else nth bs a) id bs.length ?_ ?_
  · refine ⟨by simp, by simp, 0, by simp, by simp, f1, bs, m1, rfl, fun a a0 a1 => ?_⟩
    rw [if_neg (by omega)]
  · rintro z e X ⟨x0, x3, j, hj, x4, fX, cs, mo, hcl, hcs⟩
    simp [x0, x3, x4, mo.sl.len]
    refine WB.dec ?_ ?_
    · intro hlt
      have hjl : (j : Int) < cs.length := by omega
      have ia := mo.sl.ia (k := .i64) (i := (j : Int)) (by omega) hjl
      have ld := mo.sl.ld (i := (j : Int)) (by omega) hjl
      have hnj : nth cs (j : Int) = nth bs (j : Int) := by rw [hcs j (by omega) (by omega), if_neg (by omega)]
      have hjS : (j : Int) < S.cells.length := by omega
      have hX : RpI k tg X b S fb cv nv fc fn xs ff := h.fr hw fX
      have kX : TagOk tg X := fun g hg => hk g (Nat.le_trans fX.next hg)
      obtain ⟨bo, oo, e1, e2, e3, e4, e5, e6, _⟩ := hX.cell fX.wf kX (i := (j : Int)) (by omega) hjS
      have iac := hX.ia (kk := .i64) (i := (j : Int)) (by omega) hjS
      obtain ⟨X', s1, s2, s3, s4, s5⟩ := mo.st fX.wf (i := (j : Int)) (by omega) hjl (!nth bs (j : Int) && !(nth S.cells (j : Int)).e)
      have fin : ∃ q, q < z ∧ ∃ j', q + j' = bs.length ∧ IntKind.i64.wrap ((j : Int) + 1) = (j' : Int) ∧ Fr H X' ∧ ∃ cs : List Bool, Made encB 1 H.next X' rv cs ∧ cs.length = bs.length ∧ ∀ a : Int, 0 ≤ a → a < bs.length → nth cs a = if a < j' then (!nth bs a && !(nth S.cells a).e) else nth bs a := by
        refine ⟨z - 1, by omega, j + 1, by omega, by rw [wrap64 (by omega) (by omega)]; simp, fX.step s2 s3 fun g hg => hg, _, s4, by simp [hcl], fun a a0 a1 => ?_⟩
        rw [nth_set (by omega) hjl a0]
        by_cases ea : (j : Int) = a
        · subst ea; rw [if_pos rfl, if_pos (by simp; omega)]
        · rw [if_neg ea, hcs a a0 a1]
          by_cases hlt2 : a < (j : Int)
          · rw [if_pos hlt2, if_pos (by simp; omega)]
          · rw [if_neg hlt2, if_neg (by simp; omega)]
      cases hb : nth bs (j : Int) with
      | true =>
        rw [hb] at s1 hnj
        simp [encB] at s1
        simp [x0, x3, x4, ia, ld, hnj, encB, s1]
        exact fin
      | false =>
        rw [hb] at s1 hnj
        simp [encB] at s1
        simp [x0, x3, x4, ia, ld, hnj, encB, hX.ldc, iac, e1, e5, s1]
        exact fin
    · intro hlt
      have hjl : j = bs.length := by omega
      subst hjl
      have hlb : LostB S.hp bs cs := ⟨hcl, fun a a0 a1 => by rw [hcs a a0 a1, if_pos a1]; rfl⟩
      simp [x3]
      refine WC.of (c368 D.d368 fX.wf mo.sl (by omega)) ?_
      rintro r2 K2 ⟨f2, m2⟩
      simp
      exact ⟨fX.trans f2, bs, ⟨l1, r1⟩, cs, hlb, m2.mono fX.next⟩
end
end Go.Am
