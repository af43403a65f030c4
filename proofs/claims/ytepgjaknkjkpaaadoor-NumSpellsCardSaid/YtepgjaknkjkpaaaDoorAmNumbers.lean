/- The law of scalars sorted by their numbers. -/
import Derived.Test.YtepgjaknkjkpaaaDoorAmMergeP
import Derived.Test.YtepgjaknkjkpaaaDoorAmTexts3
set_option linter.unusedVariables false
set_option linter.unusedSimpArgs false
namespace Go.Am
variable {T : Tab}

def errS (l : List Scal) : Int := if 200 < l.length then 3 else errL l
def numbersR (l : List Scal) (back : Bool) : List Scal × Int :=
  if errS l ≠ 0 then ([], errS l) else ((isort (ordC (l.map numV) back) (rangeI l.length)).map (nth l), 0)

theorem errL_zero : ∀ {l : List Scal}, errL l = 0 → ∀ x ∈ l, validB x = 0
  | [], _, x, hx => by simp at hx
  | y :: l, h, x, hx => by
    unfold errL at h
    split at h
    · rename_i hy; exact absurd h hy
    · rename_i hy
      rcases List.mem_cons.1 hx with e | hx
      · subst e; omega
      · exact errL_zero h x hx

theorem c146 (D : D146 T) {H : AHeap} (hw : WF H) {v : AV} {l : List Scal} {back : Bool} (hv : Sl encC 4 H v l) :
    Calls T 146 [v, .bool back] H fun r H' => Fr H H' ∧ ∃ a, r = .tup [a, .int .i64 (numbersR l back).2] ∧ Made encC 4 H.next H' a (numbersR l back).1 := by
  refine Calls.fn D.pr D.fn ?_
  simp [ir146]
  refine WC.of (c168 D.d168 hw hv) ?_
  rintro r H1 ⟨f1, rfl⟩
  rw [show (if 200 < l.length then 3 else errL l) = errS l from rfl]
  by_cases he : errS l = 0
  · have e0 : numbersR l back = ((isort (ordC (l.map numV) back) (rangeI l.length)).map (nth l), 0) := by unfold numbersR; rw [if_neg (by simp [he])]
    rw [e0]
    have hlen : l.length ≤ 200 := by
      unfold errS at he; split at he
      · cases he
      · omega
    have hval : ∀ x ∈ l, validB x = 0 := by
      unfold errS at he; split at he
      · cases he
      · exact errL_zero he
    simp [he]
    refine W_loop (fun (i : Nat) e K => Fr H K ∧ e 0 = v ∧ e 1 = .bool back ∧ ∃ j : Nat, i + j = l.length ∧ e 8 = .int .i64 j ∧ ∃ ov, e 7 = ov ∧ Made encI 1 H.next K ov ((l.map numV).take j)) id l.length ?_ ?_
    · exact ⟨f1, by simp, by simp, 0, by simp, by simp, .slc none 0 0 none, by simp, .nil⟩
    · rintro i e K ⟨fr, h0, h1, j, hj, h8, ov, h7, mo⟩
      have hv' := hv.fr hw fr
      simp [h0, h8, hv'.len]
      refine WB.bool ?_ ?_
      · intro hlt
        simp at hlt
        have lv := hv'.ldA (i := (j : Int)) (by omega) (by omega) rfl
        have hx := valid_len (hval _ (nth_mem hlt))
        have et : (l.map numV).take (j + 1) = (l.map numV).take j ++ [numV (nth l (j : Int))] := by rw [← List.map_take, take_nth hlt, List.map_append, List.map_take]; rfl
        generalize nth l (j : Int) = x at *
        simp (disch := omega) [h0, h7, h8, hv'.ia, lv]
        refine WC.of (c169 D.d169 fr.wf (x := x) (by omega)) ?_
        rintro r K2 ⟨f2, rfl⟩
        have mo2 := mo.fr fr.wf f2
        have f02 := fr.trans f2
        obtain ⟨v', K', q1, q2, q3, q4⟩ := push_n (bytes := 8) f02.wf f02.next mo2 (numV x) (by simp; omega) (by simp; omega)
        rw [← et] at q4
        simp (disch := omega) [h0, h1, h7, h8, wsem0_bsl1 (v := .int .i64 (numV x)) rfl, q1, wrap64]
        exact ⟨i - 1, by omega, f02.step q2 q3 (fun g h => h), j + 1, by omega, by omega, by simpa using q4⟩
      · intro hlt
        simp at hlt
        rw [List.take_of_length_le (by simp; omega)] at mo
        simp [h1, h7]
        refine WC.of (c156 D.d156 fr.wf mo.sl (by simp; omega)) ?_
        rintro pv H2 ⟨f2, m2⟩
        have f02 := fr.trans f2
        rw [List.length_map] at m2
        have hmem : ∀ s ∈ isort (ordC (l.map numV) back) (rangeI l.length), 0 ≤ s ∧ s < l.length := fun s hs => rangeI_mem ((isort_perm _ (rangeI l.length)).mem_iff.1 hs)
        have hpl := (isort_perm (ordC (l.map numV) back) (rangeI l.length)).length_eq
        rw [rangeI_len] at hpl
        generalize isort (ordC (l.map numV) back) (rangeI l.length) = ps at *
        simp
        refine W_loop (fun (i : Nat) e X => Fr H2 X ∧ e 0 = v ∧ e 9 = pv ∧ ∃ j : Nat, i + j = ps.length ∧ e 11 = .int .i64 j ∧ ∃ ov, e 10 = ov ∧ Made encC 4 H2.next X ov ((ps.map (nth l)).take j)) id ps.length ?_ ?_
        · exact ⟨.refl f02.wf, by simp [h0], by simp, 0, by simp, by simp, .slc none 0 0 none, by simp, .nil⟩
        · rintro i e X ⟨fX, h0, h9, j, hj, h11, ov, h10, mo⟩
          have hu' := hv.fr hw (f02.trans fX)
          have mp := m2.sl.fr f02.wf fX
          simp [h9, h11, mp.len]
          refine WB.bool ?_ ?_
          · intro hlt
            simp at hlt
            have lp := mp.ld (i := (j : Int)) (by omega) (by omega)
            have et := places_step (l := l) hlt
            have hm := hmem _ (nth_mem hlt)
            have lu := hu'.ldA (i := nth ps (j : Int)) (by omega) (by omega) rfl
            obtain ⟨v', K', q1, q2, q3, q4⟩ := push_a (bytes := 40) fX.wf fX.next mo (nth l (nth ps (j : Int))) (by simp) rfl (scal_cells _) (by simp; omega) (by simp; omega)
            rw [← et] at q4
            simp only [AV.cells] at q1
            generalize nth ps (j : Int) = y at *
            generalize nth l y = x at *
            have hb := wsem0_bslA (n := 4) (H := X) (z := [.int .i64 0, .int .i64 0, .str [], .bool false]) (cs := [.int .i64 x.kind, .int .i64 x.n, .str x.s, .bool x.taint]) rfl rfl (scal_cells x) (by simp)
            simp (disch := omega) [h0, h9, h10, h11, mp.ia, lp, hu'.ia, lu, hb, q1, wrap64]
            exact ⟨i - 1, by omega, fX.step q2 q3 (fun g h => h), j + 1, by omega, by omega, by simpa using q4⟩
          · intro hlt
            simp at hlt
            rw [List.take_of_length_le (by simp; omega)] at mo
            simp [h10]
            exact ⟨f02.trans fX, mo.mono f02.next⟩
  · have e0 : numbersR l back = ([], errS l) := by unfold numbersR; rw [if_pos he]
    rw [e0]
    simp [he]
    exact ⟨f1, .nil⟩

/-! ### The program's own sort -/
def cmpP (back : Bool) (a b : PairE) : Int := if back then cmpZ b.n a.n else cmpZ a.n b.n
theorem gt_pairs (back : Bool) : GtOk (cmpP back) := by
  cases back with
  | false => refine ⟨fun x y z h1 h2 => ?_, fun x y z h1 h2 => ?_, fun x => ?_⟩ <;> simp only [cmpP, Bool.false_eq_true, if_false] at * <;> rw [cmpZ_pos] at * <;> omega
  | true => refine ⟨fun x y z h1 h2 => ?_, fun x y z h1 h2 => ?_, fun x => ?_⟩ <;> simp only [cmpP, if_true] at * <;> rw [cmpZ_pos] at * <;> omega

theorem c172 (D : D172 T) {X : AHeap} (hw : WF X) {bk : Nat} {back : Bool} (bx : Box X bk bk [.bool back]) (a b : PairE) :
    Calls T 172 [encP a, encP b, .ptr (some (bk, 0))] X fun r X' => X' = (X.new (cellsP a)).new (cellsP b) ∧ r = .int .i64 (cmpP back a b) := by
  refine Calls.fn D.pr D.fn ?_
  have ca : (cellsP a).all AV.cell = true := allP [a] a (by simp)
  have cb : (cellsP b).all AV.cell = true := allP [b] b (by simp)
  have k1 : Keeps (fun _ => False) X (X.new (cellsP a)) := hw.keeps_new
  have k2 : Keeps (fun _ => False) (X.new (cellsP a)) ((X.new (cellsP a)).new (cellsP b)) := hw.new.keeps_new
  have ba : Box ((X.new (cellsP a)).new (cellsP b)) X.next X.next (cellsP a) := Box.new.keeps hw.new k2 (by simp)
  have bb : Box ((X.new (cellsP a)).new (cellsP b)) (X.new (cellsP a)).next (X.new (cellsP a)).next (cellsP b) := Box.new
  have bK := (bx.keeps hw k1 (by simp)).keeps hw.new k2 (by simp)
  have la := ba.ldn (i := 4) (x := .int .i64 a.n) rfl
  have lb := bb.ldn (i := 4) (x := .int .i64 b.n) rfl
  generalize hA : cellsP a = A at *
  generalize hB : cellsP b = B at *
  generalize hX : (X.new A).new B = Y at *
  have e1 : (encP a).cells = A := by rw [← hA]; rfl
  simp only [encP, hA, hB]
  simp [ir172, AV.cells, ca, cb, hX, bK.ld1]
  cases back with
  | true =>
    simp [lb, la]
    refine WC.of (c160 D.d160) ?_
    rintro r Y ⟨rfl, rfl⟩
    simp [cmpP]
  | false =>
    simp [lb, la]
    refine WC.of (c160 D.d160) ?_
    rintro r Y ⟨rfl, rfl⟩
    simp [cmpP]

def pairOf (x : Scal) : PairE := ⟨x, numV x⟩

theorem numR_ok {x : Scal} (h : validB x = 0) : numR x = (numV x, 0) := by unfold numR numV; rw [if_neg (by simp [h])]; split <;> rfl
theorem numR_bad {x : Scal} (h : validB x ≠ 0) : numR x = (0, validB x) := by unfold numR; rw [if_pos h]

theorem sorted_pairs (l : List Scal) (back : Bool) : (isort (cmpP back) (l.map pairOf)).map PairE.x = (isort (ordC (l.map numV) back) (rangeI l.length)).map (nth l) := by
  have e1 : l.map pairOf = (rangeI l.length).map fun i => pairOf (nth l i) := by
    apply List.ext_getElem
    · simp [rangeI_len]
    · intro i h1 h2
      have hi : i < l.length := by simpa using h1
      simp [rangeI, nth, List.getElem?_eq_getElem hi]
  have e2 := isort_map (c := ordC (l.map numV) back) (c' := cmpP back) (f := fun i => pairOf (nth l i)) (l := rangeI l.length) (by
    intro a ha b hb
    have ha := rangeI_mem ha
    have hb := rangeI_mem hb
    have ek : ∀ i : Int, 0 ≤ i → i < l.length → nth (l.map numV) i = numV (nth l i) := by
      intro i h0 h1
      have : i.toNat < l.length := by omega
      simp [nth, List.getElem?_eq_getElem this]
    cases back <;> simp [cmpP, ordC, cmpK, pairOf, ek a ha.1 ha.2, ek b hb.1 hb.2])
  rw [e1, ← e2, List.map_map]
  rfl

theorem Box.ldP {H : AHeap} {b f n : Nat} {cs : List AV} (h : Box H b f cs) (hc : n ≤ cs.length) : rsem (.ld n true) [.ptr (some (b, 0))] H = some (.agg (cs.take n)) := by
  simp [rsem, AHeap.ld, h.row, hc]
end Go.Am
