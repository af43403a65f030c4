/- Contracts of the reference's heap: counts, and what a number of a cell is. -/
import Derived.Test.YtpdedphkjkhddaaAmRefA
set_option linter.unusedVariables false
set_option linter.unusedSimpArgs false
namespace Go.Am
variable {T : Tab}

/-! ### Strong references -/
def strongTo (i : Int) (f : Fld) : Bool := f.is && !f.weak && decide (f.to = i)
def cnt (fs : List Fld) (i : Int) : Nat := fs.countP (strongTo i)
def refs (cs : List Cel) (i : Int) : Nat := (cs.map fun c => cnt c.fs i).sum
/-- Not too many cells, not too many fields. -/
structure Shp (cs : List Cel) : Prop where
  len : cs.length ≤ 100
  fl : ∀ c ∈ cs, c.fs.length ≤ 8

theorem cnt_le (fs : List Fld) (i : Int) : cnt fs i ≤ fs.length := List.countP_le_length
theorem refs_le {i : Int} : ∀ {cs : List Cel}, (∀ c ∈ cs, c.fs.length ≤ 8) → refs cs i ≤ 8 * cs.length
  | [], _ => by simp [refs]
  | c :: cs, h => by
    have h1 := refs_le (i := i) (cs := cs) fun d hd => h d (by simp [hd])
    have h2 := cnt_le c.fs i
    have h3 := h c (by simp)
    simp only [refs, List.map_cons, List.sum_cons, List.length_cons] at h1 ⊢
    omega
theorem refs_take {cs : List Cel} {j : Nat} (h : j < cs.length) (i : Int) : refs (cs.take (j + 1)) i = refs (cs.take j) i + cnt (nth cs (j : Int)).fs i := by
  rw [take_nth h]; simp [refs]
theorem cnt_take {fs : List Fld} {j : Nat} (h : j < fs.length) (i : Int) : cnt (fs.take (j + 1)) i = cnt (fs.take j) i + (if strongTo i (nth fs (j : Int)) then 1 else 0) := by
  rw [take_nth h]; simp [cnt, List.countP_append, List.countP_cons]
theorem take_fl {cs : List Cel} (h : ∀ c ∈ cs, c.fs.length ≤ 8) (j : Nat) : ∀ c ∈ cs.take j, c.fs.length ≤ 8 := fun c hc => h c (List.mem_of_mem_take hc)

def countedR (S : Rp) (i : Int) : Int := if (nth S.cells i).e = true then 0 else (nth S.cells i).n + (refs S.cells i : Int)

section
variable {k : Nat} {tg tg' : Tags} {H H' : AHeap} {b : Nat} {S : Rp} {fb : Nat} {cv nv : AV} {fc fn : Option Nat} {xs : List (AV × Cel)} {ff : Nat → Option Nat}

theorem RpI.fr (h : RpI k tg H b S fb cv nv fc fn xs ff) (hw : WF H) (hf : Fr H H') : RpI k tg H' b S fb cv nv fc fn xs ff := h.keeps hw hf.keeps fun g t hg ht => ⟨by omega, ht⟩

/-- A field is copied into a variable. -/
theorem RpI.field (h : RpI k tg H b S fb cv nv fc fn xs ff) (hw : WF H) (hk : TagOk tg H) {i j : Nat} (h1 : i < S.cells.length) (j1 : j < (nth S.cells (i : Int)).fs.length) :
    ∃ bo oo b2 o2 K, elt cv 5 i = .ptr (some (bo, oo)) ∧ rsem (.ld 1 false) [.ptr (some (bo, oo))] H = some (nth xs (i : Int)).1 ∧ psem .len [(nth xs (i : Int)).1] = some (.int .i64 (nth S.cells (i : Int)).fs.length) ∧ (∀ kk, psem (.ia 3) [(nth xs (i : Int)).1, .int kk j] = some (elt (nth xs (i : Int)).1 3 j)) ∧ elt (nth xs (i : Int)).1 3 j = .ptr (some (b2, o2)) ∧
      rsem (.ld 3 true) [.ptr (some (b2, o2))] H = some (encG (nth (nth S.cells (i : Int)).fs (j : Int))) ∧
      wsem0 (.st 3) [.ptr (some (H.next, 0)), encG (nth (nth S.cells (i : Int)).fs (j : Int))] (H.new [.int .i64 0, .bool false, .bool false]) = some (.undef, K) ∧ Fr H K ∧
      rsem (.ld 1 false) [.ptr (some (H.next, 0))] K = some (.int .i64 (nth (nth S.cells (i : Int)).fs (j : Int)).to) ∧
      rsem (.ld 1 false) [.ptr (some (H.next, 1))] K = some (.bool (nth (nth S.cells (i : Int)).fs (j : Int)).is) ∧
      rsem (.ld 1 false) [.ptr (some (H.next, 2))] K = some (.bool (nth (nth S.cells (i : Int)).fs (j : Int)).weak) := by
  have h1' : (i : Int) < S.cells.length := by exact_mod_cast h1
  have j1' : (j : Int) < (nth S.cells (i : Int)).fs.length := by exact_mod_cast j1
  obtain ⟨bo, oo, e1, e2, _⟩ := h.cell hw hk (by omega) h1'
  obtain ⟨b2, o2, p1, p2, _⟩ := h.setField hw hk (by omega) h1' (by omega) j1'
  obtain ⟨x, hx⟩ : ∃ x, nth (nth S.cells (i : Int)).fs (j : Int) = x := ⟨_, rfl⟩
  rw [hx] at p2 ⊢
  obtain ⟨K, b1, b3, b4⟩ := box_copy hw (n := 3) (zs := [.int .i64 0, .bool false, .bool false]) (ds := [.int .i64 x.to, .bool x.is, .bool x.weak]) rfl rfl (by simp [AV.cell])
  exact ⟨bo, oo, b2, o2, K, e1, e2, (h.fld (by omega) h1').len, fun kk => (h.fld (by omega) h1').ia (by omega) j1', p1, by simp [rsem, p2, encG, AV.cells], b1, b3, by simp [rsem, AHeap.ld, b4.row], by simp [rsem, AHeap.ld, b4.row], by simp [rsem, AHeap.ld, b4.row]⟩

theorem c378 (D : D378 T) (hw : WF H) (hk : TagOk tg H) (h : RpI k tg H b S fb cv nv fc fn xs ff) (hs : Shp S.cells) {i : Int} (h0 : 0 ≤ i) (h1 : i < S.cells.length) (hn : -(2 ^ 60) ≤ (nth S.cells i).n ∧ (nth S.cells i).n ≤ 2 ^ 60) :
    Calls T 378 [.ptr (some (b, 0)), .int .i64 i] H fun r K => r = .int .i64 (countedR S i) ∧ Fr H K := by
  refine Calls.fn D.pr D.fn ?_
  obtain ⟨bo, oo, e1, e2, e3, e4, e5, e6, _⟩ := h.cell hw hk h0 h1
  have ia := h.ia (kk := .i64) h0 h1
  cases he : (nth S.cells i).e with
  | true =>
    have hR : countedR S i = 0 := by unfold countedR; rw [if_pos he]
    simp [ir378, h.ldc, ia, e1, e5, he, hR]
    exact .refl hw
  | false =>
    have hR : countedR S i = (nth S.cells i).n + (refs S.cells i : Int) := by unfold countedR; rw [if_neg (by simp [he])]
    simp [ir378, h.ldc, ia, e1, e5, he, e6]
    refine W_loop (fun (z : Nat) e K => e 0 = .ptr (some (b, 0)) ∧ e 1 = .int .i64 i ∧ Fr H K ∧ ∃ j : Nat, z + j = S.cells.length ∧ e 6 = .int .i64 j ∧ e 5 = .int .i64 ((nth S.cells i).n + (refs (S.cells.take j) i : Int))) id S.cells.length ?_ ?_
    · exact ⟨by simp, by simp, .refl hw, 0, by simp, by simp, by simp [refs]⟩
    · rintro z e K ⟨x0, x1, fr, j, hj, x6, x5⟩
      have g := h.fr hw fr
      simp [x0, x6, g.ldc, g.lenC]
      refine WB.bool ?_ ?_
      · intro hlt
        simp at hlt
        have hle := refs_le (i := i) (take_fl hs.fl j)
        have hjl : (S.cells.take j).length = j := by rw [List.length_take]; omega
        have hlen := hs.len
        have hfl := hs.fl _ (nth_mem (i := (j : Int)) (by omega) (by exact_mod_cast hlt))
        simp
        refine W_loop (fun (y : Nat) e X => e 0 = .ptr (some (b, 0)) ∧ e 1 = .int .i64 i ∧ Fr H X ∧ e 6 = .int .i64 j ∧ ∃ q : Nat, y + q = (nth S.cells (j : Int)).fs.length ∧ e 7 = .int .i64 q ∧ e 5 = .int .i64 ((nth S.cells i).n + (refs (S.cells.take j) i : Int) + (cnt ((nth S.cells (j : Int)).fs.take q) i : Int))) id (nth S.cells (j : Int)).fs.length ?_ ?_
        · exact ⟨by simp [x0], by simp [x1], fr, by simp [x6], 0, by simp, by simp, by simp [cnt, x5]⟩
        · rintro y e X ⟨x0, x1, fr, x6, q, hq, x7, x5⟩
          have g := h.fr hw fr
          have hkX : TagOk tg X := fun a ha => hk a (Nat.le_trans fr.next ha)
          have iaj := g.ia (kk := .i64) (i := (j : Int)) (by omega) (by exact_mod_cast hlt)
          obtain ⟨bo2, oo2, f1, f2, _⟩ := g.cell fr.wf hkX (i := (j : Int)) (by omega) (by exact_mod_cast hlt)
          have fl := (g.fld (i := (j : Int)) (by omega) (by exact_mod_cast hlt)).len
          simp [x0, x6, x7, g.ldc, iaj, f1, f2, fl]
          refine WB.bool ?_ ?_
          · intro hlt2
            simp at hlt2
            obtain ⟨bo3, oo3, b2, o2, Y, p1, p2, p3, p4, p5, p6, p7, p8, p9, p10, p11⟩ := g.field fr.wf hkX hlt hlt2
            rw [f1] at p1
            simp only [AV.ptr.injEq, Option.some.injEq, Prod.mk.injEq] at p1
            obtain ⟨rfl, rfl⟩ := p1
            have hc := cnt_take hlt2 i
            have hcl := cnt_le ((nth S.cells (j : Int)).fs.take q) i
            have hql : ((nth S.cells (j : Int)).fs.take q).length ≤ q := by rw [List.length_take]; omega
            obtain ⟨x, hx⟩ : ∃ x, nth (nth S.cells (j : Int)).fs (q : Int) = x := ⟨_, rfl⟩
            rw [hx] at p6 p7 p9 p10 p11 hc
            simp [x0, x6, x7, g.ldc, iaj, f1, f2, p4, p5, p6, AV.cells, AV.cell, p7, p10]
            cases his : x.is with
            | false =>
              have hst : strongTo i x = false := by simp [strongTo, his]
              rw [hst] at hc
              simp (disch := omega) [x7, wrap64]
              refine ⟨y - 1, by omega, x0, x1, fr.trans p8, x6, q + 1, by omega, by simp, ?_⟩
              rw [hc]; simpa using x5
            | true =>
              simp [p11]
              cases hwk : x.weak with
              | true =>
                have hst : strongTo i x = false := by simp [strongTo, hwk]
                rw [hst] at hc
                simp (disch := omega) [x7, wrap64]
                refine ⟨y - 1, by omega, x0, x1, fr.trans p8, x6, q + 1, by omega, by simp, ?_⟩
                rw [hc]; simpa using x5
              | false =>
                simp [p9, x1]
                refine WB.bool ?_ ?_
                · intro hto
                  simp at hto
                  have hst : strongTo i x = true := by simp [strongTo, his, hwk, hto]
                  rw [hst] at hc
                  simp (disch := omega) [x5, x7, wrap64]
                  refine ⟨y - 1, by omega, x0, x1, fr.trans p8, x6, q + 1, by omega, by simp, ?_⟩
                  rw [hc]; simp; omega
                · intro hto
                  simp at hto
                  have hst : strongTo i x = false := by simp [strongTo, hto]
                  rw [hst] at hc
                  simp (disch := omega) [x7, wrap64]
                  refine ⟨y - 1, by omega, x0, x1, fr.trans p8, x6, q + 1, by omega, by simp, ?_⟩
                  rw [hc]; simpa using x5
          · intro hge
            simp at hge
            rw [List.take_of_length_le (l := (nth S.cells (j : Int)).fs) (by omega)] at x5
            have hrt := refs_take hlt i
            simp (disch := omega) [x6, wrap64]
            refine ⟨z - 1, by omega, x0, x1, fr, j + 1, by omega, by simp, ?_⟩
            rw [hrt, x5]
            simp [Int.add_assoc]
      · intro hge
        simp at hge
        rw [List.take_of_length_le (by omega)] at x5
        simp [x5, hR]
        exact fr
end
end Go.Am
