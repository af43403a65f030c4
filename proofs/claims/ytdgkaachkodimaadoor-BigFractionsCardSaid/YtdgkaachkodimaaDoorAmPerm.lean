/- A region whose operations stand in another order is followed as well. -/
import Derived.Test.YtdgkaachkodimaaDoorAmCode
set_option linter.unusedVariables false
set_option linter.unusedSimpArgs false
namespace Go.Am
open Go
structure PermR (π : List Nat) (ops : Array Oper) : Prop where
  len : π.length = ops.size
  fwd : ∀ i, i < ops.size → π.getD i 0 < ops.size ∧ π.idxOf (π.getD i 0) = i
  bwd : ∀ k, k < ops.size → π.idxOf k < ops.size ∧ π.getD (π.idxOf k) 0 = k
  edge : ∀ (i : Nat) o, ops[i]? = some o → ∀ e ∈ o.after.toList, e.on < ops.size
  grd : ∀ (i : Nat) o j b, ops[i]? = some o → o.guard = some (j, b) → j < ops.size
theorem permOk_R {π : List Nat} {ops : Array Oper} (h : permOk π ops = true) : PermR π ops := by
  unfold permOk at h
  simp only [Bool.and_eq_true, beq_iff_eq, List.all_eq_true, List.mem_range, decide_eq_true_eq] at h
  obtain ⟨⟨⟨h1, h2⟩, h3⟩, h4⟩ := h
  refine ⟨h1, h2, h3, fun i o ho e he => ?_, fun i o j b ho hg => ?_⟩
  · have hm : o ∈ ops.toList := by rw [← Array.getElem?_toList] at ho; exact List.mem_of_getElem? ho
    exact (h4 o hm).1 e he
  · have hm : o ∈ ops.toList := by rw [← Array.getElem?_toList] at ho; exact List.mem_of_getElem? ho
    have := (h4 o hm).2
    rw [hg] at this
    simpa using this
theorem permOps_size {π : List Nat} {ops : Array Oper} (h : PermR π ops) : (permOps π ops).size = ops.size := by simp [permOps, h.len]
theorem permOps_get {π : List Nat} {ops : Array Oper} (h : PermR π ops) {i : Nat} (hi : i < ops.size) {o : Oper} (ho : ops[π.getD i 0]? = some o) : (permOps π ops)[i]? = some (permOper π o) := by
  have hl : i < π.length := by rw [h.len]; exact hi
  have e : π.getD i 0 = π[i] := by rw [List.getD_eq_getElem?_getD, List.getElem?_eq_getElem hl]; rfl
  rw [e] at ho
  unfold permOps
  rw [List.getElem?_toArray, List.getElem?_map, List.getElem?_eq_getElem hl]
  simp only [Option.map_some]
  rw [Array.getD_eq_getD_getElem?, ho]
  rfl
theorem permOps_at {π : List Nat} {ops : Array Oper} (h : PermR π ops) {k : Nat} {o : Oper} (ho : ops[k]? = some o) : (permOps π ops)[π.idxOf k]? = some (permOper π o) := by
  have hk : k < ops.size := (Array.getElem?_eq_some_iff.1 ho).1
  have hb := h.bwd k hk
  exact permOps_get h hb.1 (by rw [hb.2]; exact ho)
theorem mem_ready {ops : Array Oper} {listed : Array Bool} (hs : listed.size = ops.size) {i : Nat} : i ∈ Region.ready .any ops listed ↔ i < ops.size ∧ listed.getD i false = false ∧ ∀ o, ops[i]? = some o → ∀ e ∈ o.after.toList, Region.binds .any e = true → listed.getD e.on false = true := by
  unfold Region.ready
  rw [List.mem_filter, List.mem_range]
  constructor
  · rintro ⟨hi, hb⟩
    rw [Bool.and_eq_true] at hb
    have hlt : i < listed.size := by omega
    refine ⟨hi, by simpa [Array.getD, hlt] using hb.1, fun o ho e he hbd => ?_⟩
    have h2 := hb.2
    rw [ho] at h2
    simp only [Option.map_some, Option.getD_some] at h2
    have := (Array.all_eq_true_iff_forall_mem.1 h2) e (Array.mem_toList_iff.1 he)
    simpa [hbd] using this
  · rintro ⟨hi, hb, hc⟩
    have hlt : i < listed.size := by omega
    refine ⟨hi, ?_⟩
    rw [Bool.and_eq_true]
    refine ⟨by simpa [Array.getD, hlt] using hb, ?_⟩
    have ho : ops[i]? = some ops[i] := Array.getElem?_eq_getElem hi
    rw [ho]
    simp only [Option.map_some, Option.getD_some]
    rw [Array.all_eq_true_iff_forall_mem]
    intro e he
    cases hbd : Region.binds .any e with
    | false => rfl
    | true =>
      have := hc _ ho e (Array.mem_toList_iff.2 he) hbd
      simpa using this
theorem wanted_perm {π : List Nat} {ops : Array Oper} (h : PermR π ops) {k : Nat} {o : Oper} (ho : ops[k]? = some o) (tmps : Array Value) :
    Region.wanted (permOper π o) (yielded (permOps π ops) tmps) = Region.wanted o (yielded ops tmps) := by
  unfold Region.wanted
  cases hg : o.guard with
  | none => simp [permOper, hg]
  | some g =>
    obtain ⟨j, b⟩ := g
    have hj := h.grd k o j b ho hg
    have hoj : ops[j]? = some ops[j] := Array.getElem?_eq_getElem hj
    have hp := permOps_at h hoj
    have hd : (permOper π o).guard = some (π.idxOf j, b) := by simp [permOper, hg]
    rw [hd]
    simp only
    unfold yielded
    rw [hp, hoj]
    rfl
theorem wpOp_perm {F : Fence} {n : Nat} {P : Program} {Q : Exit → Act → World → Prop} {π : List Nat} {ops : Array Oper} (h : PermR π ops) {k : Nat} (hk : k < ops.size) {K K' : Act → World → Prop} (hK : ∀ a w, K' a w → K a w) {a : Act} {w : World}
    (hh : wpOpIn F n P (permOps π ops) Q (π.idxOf k) K' a w) : wpOpIn F n P ops Q k K a w := by
  have ho : ops[k]? = some ops[k] := Array.getElem?_eq_getElem hk
  have hp := permOps_at h ho
  have hw := wanted_perm h ho a.tmps
  apply wpOpIn_mono hK
  unfold wpOpIn at hh ⊢
  rw [hp] at hh
  rw [ho]
  simp only at hh ⊢
  rw [hw] at hh
  exact hh
theorem wpAny_perm {F : Fence} {n : Nat} {P : Program} {Q : Exit → Act → World → Prop} {π : List Nat} {ops : Array Oper} (h : PermR π ops) :
    ∀ (fuel : Nat) (l l' : Array Bool) (a : Act) (w : World), l.size = ops.size → l'.size = ops.size → (∀ i, i < ops.size → l'.getD i false = l.getD (π.getD i 0) false) →
      wpAnyIn F n P .any (permOps π ops) Q fuel l' a w → wpAnyIn F n P .any ops Q fuel l a w := by
  have rdy : ∀ {l l' : Array Bool}, l.size = ops.size → l'.size = ops.size → (∀ i, i < ops.size → l'.getD i false = l.getD (π.getD i 0) false) → ∀ k, k < ops.size → (k ∈ Region.ready .any ops l ↔ π.idxOf k ∈ Region.ready .any (permOps π ops) l') := by
    intro l l' hs hs' hl k hk
    have hb := h.bwd k hk
    rw [mem_ready hs, mem_ready (by rw [permOps_size h]; exact hs'), permOps_size h]
    have ho : ops[k]? = some ops[k] := Array.getElem?_eq_getElem hk
    have hp := permOps_at h ho
    have hv : ∀ j, j < ops.size → l'.getD (π.idxOf j) false = l.getD j false := by
      intro j hj
      have := h.bwd j hj
      rw [hl _ this.1, this.2]
    constructor
    · rintro ⟨_, h2, h3⟩
      refine ⟨hb.1, by rw [hv k hk]; exact h2, fun o hoo e he hbd => ?_⟩
      rw [hp] at hoo
      obtain rfl := Option.some.inj hoo
      simp only [permOper, Array.toList_map, List.mem_map] at he
      obtain ⟨e', he', rfl⟩ := he
      have := h3 _ ho e' he' hbd
      rw [hv _ (h.edge k _ ho e' he')]; exact this
    · rintro ⟨_, h2, h3⟩
      refine ⟨hk, by rw [← hv k hk]; exact h2, fun o hoo e he hbd => ?_⟩
      rw [ho] at hoo
      obtain rfl := Option.some.inj hoo
      rw [← hv _ (h.edge k _ ho e he)]
      refine h3 _ hp { e with on := π.idxOf e.on } ?_ hbd
      simp only [permOper, Array.toList_map, List.mem_map]
      exact ⟨e, he, rfl⟩
  have none_ : ∀ {l l' : Array Bool}, l.size = ops.size → l'.size = ops.size → (∀ i, i < ops.size → l'.getD i false = l.getD (π.getD i 0) false) → (Region.ready .any (permOps π ops) l' = [] ↔ Region.ready .any ops l = []) := by
    intro l l' hs hs' hl
    rw [List.eq_nil_iff_forall_not_mem, List.eq_nil_iff_forall_not_mem]
    constructor
    · intro hn k hk
      have hks := ((mem_ready hs).1 hk).1
      exact hn _ ((rdy hs hs' hl k hks).1 hk)
    · intro hn i hi
      have his := ((mem_ready (by rw [permOps_size h]; exact hs')).1 hi).1
      rw [permOps_size h] at his
      have hf := h.fwd i his
      refine hn (π.getD i 0) ((rdy hs hs' hl _ hf.1).2 ?_)
      rw [hf.2]; exact hi
  intro fuel
  induction fuel with
  | zero =>
    intro l l' a w hs hs' hl hh
    unfold wpAnyIn at hh ⊢
    exact ⟨(none_ hs hs' hl).1 hh.1, hh.2⟩
  | succ fuel ih =>
    intro l l' a w hs hs' hl hh
    unfold wpAnyIn at hh ⊢
    refine ⟨fun hn => hh.1 ((none_ hs hs' hl).2 hn), fun k hk => ?_⟩
    have hks := ((mem_ready hs).1 hk).1
    have hb := h.bwd k hks
    have := hh.2 _ ((rdy hs hs' hl k hks).1 hk)
    refine wpOp_perm h hks (fun a w hK => ?_) this
    refine ih _ _ a w (by simpa using hs) (by simpa using hs') (fun i hi => ?_) hK
    have hf := h.fwd i hi
    have hgi : ∀ (A : Array Bool) (m j : Nat), m < A.size → (A.setIfInBounds m true).getD j false = if j = m then true else A.getD j false := by
      intro A m j hm
      rw [Array.getD_eq_getD_getElem?, Array.getD_eq_getD_getElem?, Array.getElem?_setIfInBounds]
      by_cases e : m = j
      · subst e; simp [hm]
      · rw [if_neg e, if_neg (fun h => e h.symm)]
    rw [hgi _ _ _ (by omega), hgi _ _ _ (by omega), hl i hi]
    by_cases e : i = π.idxOf k
    · rw [if_pos e, if_pos (by rw [e, hb.2])]
    · rw [if_neg e, if_neg]
      intro h2
      apply e
      rw [← h2, hf.2]
theorem noD_perm {ro : Option Nat} {π : List Nat} {ops : Array Oper} (h : PermR π ops) (hn : NoD ro ops) : NoD ro (permOps π ops) := by
  rcases hn with hn | hn
  · exact .inl hn
  · refine .inr fun i o ho => ?_
    have hi : i < ops.size := by rw [← permOps_size h]; exact (Array.getElem?_eq_some_iff.1 ho).1
    have hf := h.fwd i hi
    have hk : ops[π.getD i 0]? = some ops[π.getD i 0] := Array.getElem?_eq_getElem hf.1
    have := permOps_get h hi hk
    rw [this] at ho
    obtain rfl := Option.some.inj ho
    show isDfr (ops[π.getD i 0]).op = false
    exact hn _ _ hk
end Go.Am
