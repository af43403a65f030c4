/- The contract of the function that sorts places by a row. -/
import Derived.Test.YtepgjaknkjkpaaaDoorAmList
set_option linter.unusedVariables false
set_option linter.unusedSimpArgs false
namespace Go.Am
variable {T : Tab}

def cmpRow (row : List Int) (k : Nat) (_ _ : Int) : Int × Nat := (if k < row.length then nth row k else 0, k + 1)
def rangeI (n : Nat) : List Int := (List.range n).map fun i : Nat => (i : Int)
def sortSpec (n : Int) (row : List Int) : List Int × Nat × Int :=
  if n < 0 then ([], 0, 1) else if 200 < n then ([], 0, 3) else
    ((sortN (cmpRow row) (n.toNat + 1) (rangeI n.toNat) 0).1, (sortN (cmpRow row) (n.toNat + 1) (rangeI n.toNat) 0).2, 0)

/-- What the comparator's variables hold. -/
structure SortCI (bk fk br fr n0 : Nat) (rv : AV) (row : List Int) (k : Nat) (X : AHeap) : Prop where
  bk : Box X bk fk [.int .i64 k]
  br : Box X br fr [rv]
  rv : Rd (fun g => g = fk ∨ n0 ≤ g) encI 1 X rv row

theorem c150 (D : D150 T) {bk fk br fr n0 : Nat} {rv : AV} {row : List Int} {k : Nat} {X : AHeap} (hne : fr ≠ fk) (hw : WF X) (h : SortCI bk fk br fr n0 rv row k X) (hk : k < 2 ^ 60) (x y : Int) :
    Calls T 150 [.int .i64 x, .int .i64 y, .ptr (some (bk, 0)), .ptr (some (br, 0))] X fun v X' => v = .int .i64 (cmpRow row k x y).1 ∧ WF X' ∧ SortCI bk fk br fr n0 rv row (k + 1) X' ∧ Keeps (fun g => g = fk) X X' := by
  refine Calls.fn D.pr D.fn ?_
  obtain ⟨X2, s1, s2, s3, s4, s5⟩ := h.bk.st1 hw (y := .int .i64 ((k : Int) + 1)) rfl
  have hbr : Box X2 br fr [rv] := h.br.keeps hw s4 hne
  have hrv : Rd (fun g => g = fk ∨ n0 ≤ g) encI 1 X2 rv row := h.rv.keepsD (s4.mono fun g hg => .inl hg)
  simp (disch := omega) [ir150, h.bk.ld1, wrap64, s1]
  have fin : SortCI bk fk br fr n0 rv row (k + 1) X2 := ⟨by simpa using s3, hbr, hrv⟩
  have e1 : rsem (.ld 1 false) [.ptr (some (bk, 0))] X2 = some (.int .i64 ((k : Int) + 1)) := by have := s3.ld1; simpa using this
  simp [e1, hbr.ld1, hrv.sl.len]
  refine WB.bool ?_ ?_
  · intro hgt
    simp at hgt
    simp [cmpRow]
    refine ⟨?_, s2, fin, s4⟩
    intro hlt; omega
  · intro hgt
    simp at hgt
    have ia : psem (.ia 1) [rv, .int .i64 (k : Int)] = some (elt rv 1 k) := hrv.sl.ia (by omega) (by omega)
    have ld := hrv.sl.ld (i := (k : Int)) (by omega) (by omega)
    simp (disch := omega) [e1, hbr.ld1, wrap64, ia, ld, cmpRow]
    refine ⟨?_, s2, fin, s4⟩
    intro hlt; omega

theorem rangeI_succ (n : Nat) : rangeI (n + 1) = rangeI n ++ [(n : Int)] := by simp [rangeI, List.range_succ]
theorem rangeI_len (n : Nat) : (rangeI n).length = n := by simp [rangeI]

theorem c113 (D : D113 T) {H : AHeap} (hw : WF H) {n : Int} {rv : AV} {row : List Int} (hrow : Sl encI 1 H rv row) :
    Calls T 113 [.int .i64 n, rv] H fun v H' => Fr H H' ∧ ∃ lv, v = .tup [lv, .int .i64 ((sortSpec n row).2.1 : Int), .int .i64 (sortSpec n row).2.2] ∧ Made encI 1 H.next H' lv (sortSpec n row).1 := by
  refine Calls.fn D.pr D.fn ?_
  simp [ir113, hrow.form.1, hrow.form.2]
  refine WB.bool ?_ ?_
  · intro h
    simp at h
    simp [sortSpec, h]
    exact ⟨hw.fr_new, .nil⟩
  · intro h
    simp at h
    simp
    refine WC.of (c148 D.d148) ?_
    rintro v H' ⟨rfl, rfl⟩
    simp
    by_cases h2 : 200 < n
    · simp [sortSpec, h2, show ¬ n < 0 by omega]
      exact ⟨hw.fr_new, .nil⟩
    · simp [h2]
      refine W_loop (fun (i : Nat) e K => Fr (H.new [rv]) K ∧ e 3 = .ptr (some (H.next, 0)) ∧ e 19 = .int .i64 n ∧ ∃ j : Nat, i + j = n.toNat ∧ e 20 = .int .i64 j ∧ ∃ pv, e 8 = pv ∧ Made encI 1 (H.new [rv]).next K pv (rangeI j)) id n.toNat ?_ ?_
      · refine ⟨.refl hw.new, by simp, by simp, 0, by simp, by simp, .slc none 0 0 none, by simp, .nil⟩
      · rintro i e K ⟨fr, h3, h19, j, hj, h20, pv, h8, mp⟩
        simp [h19, h20]
        refine WB.bool ?_ ?_
        · intro hlt
          simp at hlt
          obtain ⟨pv', K2, q1, q2, q3⟩ := push1_made (bytes := 8) fr mp (j : Int) (by rw [rangeI_len]; omega) (by rw [rangeI_len]; omega)
          simp (disch := omega) [h20, h8, wsem0_bsl1 (v := encI j) rfl, q1, wrap64, h3, h19]
          refine ⟨i - 1, by omega, q2, j + 1, by omega, by simp, ?_⟩
          rw [rangeI_succ]; exact q3
        · intro hlt
          simp at hlt
          have ej : j = n.toNat := by omega
          subst ej
          have hfk := fr.next
          have hfk' : H.next + 1 ≤ K.next := hfk
          have b0 : Box (K.new [.int .i64 0]) K.next K.next [.int .i64 0] := Box.new
          obtain ⟨K2, s1, s2, s3, s4, s5⟩ := b0.st1 fr.wf.new (y := .int .i64 0) rfl
          have hbr0 : Box (H.new [rv]) H.next H.next [rv] := Box.new
          have hbrK : Box K H.next H.next [rv] := hbr0.keeps hw.new fr.keeps (by show ¬ (H.next + 1 ≤ H.next); omega)
          have hbr1 : Box (K.new [.int .i64 0]) H.next H.next [rv] := hbrK.keeps fr.wf (D := fun _ => False) fr.wf.keeps_new (by simp)
          have hbr2 : Box K2 H.next H.next [rv] := hbr1.keeps fr.wf.new s4 (by omega)
          have hn2 : K2.next = K.next + 1 := s5
          have rd0 : Rd (fun g => H.next ≤ g) encI 1 H rv row := hrow.rd hw
          have rd1 := rd0.keepsD (hw.keeps_new (cs := [rv]))
          have rd2 := rd1.keepsD (fr.keeps.mono fun g hg => Nat.le_trans (Nat.le_succ _) hg)
          have rd3 := rd2.keepsD (fr.wf.keeps_new (cs := [.int .i64 0]))
          have rd4 := rd3.keepsD (s4.mono fun g hg => by omega)
          have ci : SortCI K.next K.next H.next H.next K2.next rv row 0 K2 := ⟨s3, hbr2, rd4.mono fun g hg => by omega⟩
          have hc : CmpOk T encI 150 [.ptr (some (K.next, 0)), .ptr (some (H.next, 0))] K2.next (fun g => g = K.next) (SortCI K.next K.next H.next H.next K2.next rv row) (cmpRow row) (fun _ => True) id (2 ^ 60) := by
            refine ⟨fun s x y => by simp [cmpRow], fun g hg => by omega, ?_, ?_⟩
            · intro s X x y _ _ hs hwX _ hci
              exact (c150 D.d150 (by omega) hwX hci hs x y).imp fun v X' hh => hh
            · intro s X X' hwX hnX hci hk
              exact ⟨hci.bk.keeps hwX hk (by omega), hci.br.keeps hwX hk (by omega), hci.rv.keepsD (hk.mono fun g hg => .inr hg)⟩
          have kp12 : Keeps (fun g => (H.new [rv]).next ≤ g) K K2 := (fr.wf.keeps_new (cs := [.int .i64 0])).trans (s4.mono fun g hg => by show H.next + 1 ≤ g; omega)
          have pd : Rd (fun g => K.next ≤ g) encI 1 K2 pv (rangeI n.toNat) := ((mp.sl.rd fr.wf).keepsD (fr.wf.keeps_new (cs := [.int .i64 0]))).keepsD (s4.mono fun g hg => by omega)
          have hmul : n.toNat * (n.toNat + 1) ≤ 200 * 201 := Nat.mul_le_mul (by omega) (by omega)
          simp [h8, h3, s1, AV.cells, AV.cell]
          refine WC.of (c149 D.d149 hc n.toNat (rangeI n.toNat) pv K2 0 (by rw [rangeI_len]; omega) (by omega) (by rw [rangeI_len]; show 0 + _ ≤ _; omega) s2 (Nat.le_refl _) ci (pd.mono fun g hg => by omega) (fun _ _ => trivial)) ?_
          rintro r K3 ⟨w3, m3, i3, k3⟩
          simp [i3.bk.ld1]
          refine ⟨⟨w3, ?_⟩, ?_⟩
          · exact ((hw.keeps_new.trans (fr.keeps.mono fun g hg => Nat.le_trans (Nat.le_succ _) hg)).trans (kp12.mono fun g hg => Nat.le_trans (Nat.le_succ _) hg)).trans (k3.mono fun g hg => by omega)
          · have e : sortSpec n row = ((sortN (cmpRow row) (n.toNat + 1) (rangeI n.toNat) 0).1, (sortN (cmpRow row) (n.toNat + 1) (rangeI n.toNat) 0).2, 0) := by
              unfold sortSpec; rw [if_neg (by omega), if_neg (by omega)]
            rw [e]
            simp
            exact m3.mono (by omega)
end Go.Am
