/- Structures that are written in their place: elements of slices of their own, read and written cell by cell; and the tags by which rows are held apart. -/
import Derived.Test.YtdgkaachkodimaaDoorAmLibs
set_option linter.unusedVariables false
set_option linter.unusedSimpArgs false
namespace Go.Am
theorem wsem0_mks {bytes n : Nat} {zero : List AV} {k l : IntKind} {H : AHeap} (h1 : n * bytes ≤ 2 ^ 46) (h2 : zero.length ≠ 0) (h3 : zero.all AV.cell = true) (h4 : n ≤ 2 ^ 62) :
    wsem0 (.mks bytes zero) [.int k (n : Int), .int l (n : Int)] H = some (.slc (some (H.next, 0)) zero.length n (some n), H.new (List.replicate n zero).flatten) := by
  have e : ((n * bytes : Nat) : Int) ≤ 2 ^ 46 := by exact_mod_cast h1
  have e2 : (n : Int) ≤ 2 ^ 62 := by exact_mod_cast h4
  rw [Int.natCast_mul] at e
  simp only [wsem0, wsem]
  rw [if_pos ⟨by omega, by omega, e, h2, h3, e2⟩]
  simp
theorem splice_mid (a b c vs : List AV) (k : Nat) (h : k + vs.length ≤ b.length) : splice (a ++ b ++ c) (a.length + k) vs = a ++ splice b k vs ++ c := by
  unfold splice
  rw [List.append_assoc a b c, List.take_append, List.take_of_length_le (by omega), List.drop_append, List.drop_eq_nil_of_le (by omega)]
  rw [show a.length + k - a.length = k by omega, show a.length + k + vs.length - a.length = k + vs.length by omega]
  rw [List.take_append, List.drop_append, show k - b.length = 0 by omega, show k + vs.length - b.length = 0 by omega]
  simp
section
variable {α : Type} {enc : α → AV} {sz : Nat}
/-- An element of a slice, where it lies: its cells are read and written one by one. -/
theorem Own.at [Inhabited α] {H : AHeap} (hw : WF H) {v : AV} {l : List α} {f : Option Nat} (h : Own enc sz H v l f) {i : Int} (h0 : 0 ≤ i) (h1 : i < l.length) :
    ∃ bo oo, elt v sz i = .ptr (some (bo, oo)) ∧
      (∀ k n, k + n ≤ sz → H.ld bo (oo + k) n = some (((enc (nth l i)).cells.drop k).take n)) ∧
      (∀ x k vs, vs.all AV.cell = true → k + vs.length ≤ sz → (enc x).cells = splice (enc (nth l i)).cells k vs →
        ∃ H', H.st bo (oo + k) vs = some H' ∧ WF H' ∧ Own enc sz H' v (l.set i.toNat x) f ∧ Keeps (fun g => f = some g) H H' ∧ H'.next = H.next) := by
  obtain ⟨⟨hz, p, sv, cap, rfl, hcap, h2⟩, hf⟩ := h
  cases p with
  | none => have h2 : l = [] := h2; subst h2; simp at h1; omega
  | some q =>
    obtain ⟨b, off⟩ := q
    obtain ⟨rfl, g, cs, h4, h5, h6⟩ := h2
    obtain ⟨g', cs', q1, q2, q3⟩ := hf
    rw [h4] at q1; cases q1
    have hi : i.toNat < l.length := by omega
    have hn : nth l i = l[i.toNat] := by simp [nth, List.getElem?_eq_getElem hi]
    have hzi : (enc l[i.toNat]).cells.length = sv := hz _ (List.getElem_mem hi)
    have hb : i.toNat * sv + sv ≤ l.length * sv := by
      have := Nat.mul_le_mul_right sv (show i.toNat + 1 ≤ l.length by omega)
      rw [Nat.add_mul, Nat.one_mul] at this; exact this
    -- the row in three parts
    have hcut : cs = cs.take off ++ (cs.drop off).take (l.length * sv) ++ cs.drop (off + l.length * sv) := by
      rw [List.append_assoc, ← List.drop_drop, List.take_append_drop, List.take_append_drop]
    have hfl : l = l.take i.toNat ++ [l[i.toNat]] ++ l.drop (i.toNat + 1) := by
      rw [← List.take_succ_eq_append_getElem hi, List.take_append_drop]
    have hflat : (l.flatMap fun x => (enc x).cells) = ((l.take i.toNat).flatMap fun x => (enc x).cells) ++ (enc l[i.toNat]).cells ++ ((l.drop (i.toNat + 1)).flatMap fun x => (enc x).cells) := by
      have := congrArg (fun l => l.flatMap fun x => (enc x).cells) hfl
      simpa only [List.flatMap_append, List.flatMap_cons, List.flatMap_nil, List.append_nil] using this
    have hpre : ((l.take i.toNat).flatMap fun x => (enc x).cells).length = i.toNat * sv := by
      rw [flat_len fun x hx => hz x (List.mem_of_mem_take hx), List.length_take, Nat.min_eq_left (by omega)]
    have hrow : cs = (cs.take off ++ ((l.take i.toNat).flatMap fun x => (enc x).cells)) ++ (enc l[i.toNat]).cells ++ (((l.drop (i.toNat + 1)).flatMap fun x => (enc x).cells) ++ cs.drop (off + l.length * sv)) := by
      conv => lhs; rw [hcut, h6, hflat]
      simp [List.append_assoc]
    have hlen : (cs.take off ++ ((l.take i.toNat).flatMap fun x => (enc x).cells)).length = off + i.toNat * sv := by
      rw [List.length_append, hpre, List.length_take, Nat.min_eq_left (by omega)]
    refine ⟨b, off + i.toNat * sv, rfl, ?_, ?_⟩
    · intro k n hkn
      simp only [AHeap.ld, h4]
      rw [if_pos (by omega)]
      congr 1
      rw [hn]
      conv => lhs; rw [hrow]
      rw [← hlen, List.append_assoc, List.drop_append, List.drop_eq_nil_of_le (by omega), List.nil_append, show (cs.take off ++ ((l.take i.toNat).flatMap fun x => (enc x).cells)).length + k - (cs.take off ++ ((l.take i.toNat).flatMap fun x => (enc x).cells)).length = k by omega]
      rw [List.drop_append, List.take_append, show n - ((enc l[i.toNat]).cells.drop k).length = 0 by rw [List.length_drop, hzi]; omega]
      simp
    · intro x k vs hall hkn hx
      rw [hn] at hx
      have hbox : Box H b g cs := ⟨h4, q3⟩
      obtain ⟨H', r1, r2, r3, r4, r5⟩ := hbox.st hw (off := off + i.toNat * sv + k) (vs := vs) (by omega) hall
      have hsp : splice cs (off + i.toNat * sv + k) vs = (cs.take off ++ ((l.take i.toNat).flatMap fun x => (enc x).cells)) ++ (enc x).cells ++ (((l.drop (i.toNat + 1)).flatMap fun x => (enc x).cells) ++ cs.drop (off + l.length * sv)) := by
        conv => lhs; rw [hrow]
        rw [← hlen, splice_mid _ _ _ _ _ (by rw [hzi]; exact hkn), hx]
      have hxl : (enc x).cells.length = sv := by rw [hx, splice_length' (by rw [hzi]; exact hkn), hzi]
      have hset : l.set i.toNat x = l.take i.toNat ++ [x] ++ l.drop (i.toNat + 1) := by
        rw [List.set_eq_take_append_cons_drop, if_pos hi]; simp
      refine ⟨H', r1, r2, ⟨⟨?_, some (b, off), sv, cap, by rw [List.length_set], by simpa using hcap, rfl, g, _, r3.row, ?_, ?_⟩, g, _, r3.row, q2, r3.fam⟩, r4.mono fun g' hg => by subst hg; exact q2, r5⟩
      · intro y hy
        rcases List.mem_or_eq_of_mem_set hy with hy | rfl
        · exact hz y hy
        · exact hxl
      · rw [List.length_set, splice_length' (by omega)]; exact h5
      · rw [List.length_set, hsp, hset]
        have e1 : (cs.take off).length = off := by rw [List.length_take, Nat.min_eq_left (by omega)]
        rw [List.append_assoc, List.append_assoc, List.drop_append, List.drop_eq_nil_of_le (by omega), e1, Nat.sub_self, List.drop_zero, List.nil_append]
        have e2 : (((l.take i.toNat).flatMap fun x => (enc x).cells) ++ ((enc x).cells ++ ((l.drop (i.toNat + 1)).flatMap fun x => (enc x).cells))).length = l.length * sv := by
          have : ((l.drop (i.toNat + 1)).flatMap fun x => (enc x).cells).length = (l.length - (i.toNat + 1)) * sv := by
            rw [flat_len fun x hx => hz x (List.mem_of_mem_drop hx), List.length_drop]
          rw [List.length_append, List.length_append, hpre, hxl, this, ← Nat.add_assoc, ← Nat.succ_mul, ← Nat.add_mul]
          congr 1; omega
        rw [← List.append_assoc ((enc x).cells), ← List.append_assoc, List.take_append, ← e2, List.take_length, Nat.sub_self]
        simp [List.flatMap_append]
where
  splice_length' {cs vs : List AV} {off : Nat} (h : off + vs.length ≤ cs.length) : (splice cs off vs).length = cs.length := by
    simp [splice]; omega
end
end Go.Am
