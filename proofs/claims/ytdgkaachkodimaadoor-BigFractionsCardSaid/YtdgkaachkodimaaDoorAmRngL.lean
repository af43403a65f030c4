/- Ranges over maps in walks: each entry of a map comes once, in some order. -/
import Derived.Test.YtdgkaachkodimaaDoorAmLibs
import Derived.Test.YtdgkaachkodimaaDoorAmOra
set_option linter.unusedVariables false
set_option linter.unusedSimpArgs false
namespace Go.Am
variable {T : Tab}
/-- A range over a map that stays as it is: V has come so far. -/
structure Rg (H : AHeap) (b m : Nat) (own : Bool) (es : List (AV × AV)) (st : List Nat × Nat) (V : List (Nat × AV × AV)) : Prop where
  it : H.blk b = some (.mit (some m) st.2 (V.map (·.1)) st.2)
  mp : H.blk m = some (.map own es st)
  ok : StOk st es
  sub : ∀ z ∈ V, z ∈ st.1.zip es
  nd : V.Nodup
theorem zip_fst {st : List Nat × Nat} {es : List (AV × AV)} (h : StOk st es) : (st.1.zip es).map (·.1) = st.1 := by
  rw [List.map_fst_zip]
  exact Nat.le_of_eq h.len
theorem zip_uniq {st : List Nat × Nat} {es : List (AV × AV)} (h : StOk st es) {x y : Nat × AV × AV} (hx : x ∈ st.1.zip es) (hy : y ∈ st.1.zip es) (e : x.1 = y.1) : x = y := by
  have nd : ((st.1.zip es).map (·.1)).Nodup := by rw [zip_fst h]; exact h.nodup
  obtain ⟨i, hi, rfl⟩ := List.getElem_of_mem hx
  obtain ⟨j, hj, rfl⟩ := List.getElem_of_mem hy
  have := (List.getElem_inj (xs := (st.1.zip es).map (·.1)) (h₀ := by simpa using hi) (h₁ := by simpa using hj) nd).1 (by simpa using e)
  subst this; rfl
theorem WF.bump {H : AHeap} (hw : WF H) (n : Nat) : WF (H.bump n) ∧ ∀ D, Keeps D H (H.bump n) := by
  refine ⟨⟨fun b hb => hw.blk b (Nat.le_trans (Nat.le_add_right _ _) hb), fun b f cs h => Nat.lt_of_lt_of_le (hw.fam b f cs h) (Nat.le_add_right _ _)⟩, fun D => ⟨Nat.le_add_right _ _, fun b f cs h _ => h, fun f hf _ => rfl, fun m o h _ _ => h, fun _ _ => rfl⟩⟩
theorem Rg.next {H : AHeap} {b m : Nat} {own : Bool} {es : List (AV × AV)} {st : List Nat × Nat} {V : List (Nat × AV × AV)} (h : Rg H b m own es st V) (hbm : b ≠ m) (hw : WF H) (ω : Ora) :
    ∃ H', WF H' ∧ Keeps (fun g => g = b) H H' ∧
      ((nxtPrim ω [.ptr (some (b, 0))] H = some (.tup [.bool false], H') ∧ V.Perm (st.1.zip es)) ∨
       (∃ z, z ∈ st.1.zip es ∧ z ∉ V ∧ nxtPrim ω [.ptr (some (b, 0))] H = some (.tup [.bool true, z.2.1, z.2.2], H') ∧ Rg H' b m own es st (V ++ [z]) ∧ rsem .ent [.ptr (some (b, 0))] H' = some (.tup [z.2.1, z.2.2]))) := by
  obtain ⟨Z, hZ⟩ : ∃ Z, st.1.zip es = Z := ⟨_, rfl⟩
  have hlt : ∀ z ∈ Z, z.1 < st.2 := by
    intro z hz
    have : z.1 ∈ st.1 := by rw [← zip_fst h.ok, hZ]; exact List.mem_map_of_mem hz
    exact h.ok.lt _ this
  obtain ⟨left, hleft⟩ : ∃ left, Z.filter (fun e => !(V.map (·.1)).contains e.1) = left := ⟨_, rfl⟩
  have hold : left.filter (fun e => decide (e.1 < st.2)) = left := by
    rw [List.filter_eq_self]
    intro z hz
    rw [← hleft] at hz
    simpa using hlt z (List.mem_filter.1 hz).1
  have hnew : left.filter (fun e => decide (st.2 ≤ e.1)) = [] := by
    rw [List.filter_eq_nil_iff]
    intro z hz
    rw [← hleft] at hz
    have := hlt z (List.mem_filter.1 hz).1
    simp; omega
  have hc : cands Z st.2 (V.map (·.1)) = (if left.isEmpty then [none] else []) ++ left.map some := by
    unfold cands
    simp only
    rw [hleft, hold, hnew, List.append_nil]
  have hcond : ¬((V.map (·.1)).isEmpty = false ∧ es.isEmpty = false ∧ (st.1.all fun c => decide (st.2 ≤ c)) = true) := by
    rintro ⟨_, h2, h3⟩
    have hl := h.ok.len
    cases he : st.1 with
    | nil =>
      rw [he] at hl
      have : es = [] := List.eq_nil_of_length_eq_zero (by simpa using hl.symm)
      rw [this] at h2; simp at h2
    | cons c r =>
      rw [he] at h3
      have := h.ok.lt c (by rw [he]; simp)
      simp at h3
      omega
  have memV : ∀ z ∈ Z, (z.1 ∈ V.map (·.1) ↔ z ∈ V) := by
    intro z hz
    constructor
    · intro hm
      obtain ⟨v, hv, e⟩ := List.mem_map.1 hm
      have := zip_uniq h.ok (h.sub v hv) (by rw [hZ]; exact hz) e
      rwa [← this]
    · exact fun hm => List.mem_map_of_mem hm
  cases hle : left with
  | nil =>
    have hc1 : cands Z st.2 (V.map (·.1)) = [none] := by rw [hc, hle]; rfl
    obtain ⟨w1, w2⟩ := hw.bump 1
    refine ⟨H.bump 1, w1, w2 _, .inl ⟨?_, ?_⟩⟩
    · simp only [nxtPrim, h.it, h.mp]
      rw [if_neg hcond, hZ, hc1]
      simp [choice]
    · have ndZ : Z.Nodup := by
        have : (Z.map (·.1)).Nodup := by rw [← hZ, zip_fst h.ok]; exact h.ok.nodup
        exact (List.pairwise_map.1 this).imp fun h e => h (by rw [e])
      rw [hZ]
      refine (List.perm_ext_iff_of_nodup h.nd ndZ).2 fun z => ⟨fun hz => by rw [← hZ]; exact h.sub z hz, fun hz => ?_⟩
      rw [← memV z hz]
      apply Classical.byContradiction
      intro hn
      have : z ∈ left := by
        rw [← hleft]
        exact List.mem_filter.2 ⟨hz, by simpa using hn⟩
      rw [hle] at this; cases this
  | cons y r =>
    have hc1 : cands Z st.2 (V.map (·.1)) = left.map some := by rw [hc, hle]; rfl
    have hlen : 0 < left.length := by rw [hle]; simp
    have hch : choice ω H.next (left.length - 1) < left.length := by
      have := choice_le ω (left.length - 1) H.next
      omega
    obtain ⟨z, hz⟩ : ∃ z, left[choice ω H.next (left.length - 1)]? = some z := ⟨_, List.getElem?_eq_getElem hch⟩
    have hzl : z ∈ left := List.mem_of_getElem? hz
    have hzZ : z ∈ Z ∧ z ∉ V := by
      rw [← hleft] at hzl
      obtain ⟨q1, q2⟩ := List.mem_filter.1 hzl
      refine ⟨q1, fun hv => ?_⟩
      rw [← memV z q1] at hv
      simp at q2
      obtain ⟨v, hv1, hv2⟩ := List.mem_map.1 hv
      obtain ⟨a, b, c⟩ := v
      exact q2 b c (by rw [← hv2]; exact hv1)
    obtain ⟨o1, o2, o3⟩ := hw.setObj (o' := .mit (some m) st.2 (V.map (·.1) ++ [z.1]) st.2) h.it rfl rfl
    obtain ⟨w1, w2⟩ := o1.bump left.length
    have hbm' : ((H.setObj b (.mit (some m) st.2 (V.map (·.1) ++ [z.1]) st.2)).bump left.length).blk m = some (.map own es st) := by
      show upd H.blk b _ m = _
      rw [upd_ne _ _ _ (Ne.symm hbm)]; exact h.mp
    have hbb : ((H.setObj b (.mit (some m) st.2 (V.map (·.1) ++ [z.1]) st.2)).bump left.length).blk b = some (.mit (some m) st.2 (V.map (·.1) ++ [z.1]) st.2) := upd_same _ _ _
    refine ⟨(H.setObj b (.mit (some m) st.2 (V.map (·.1) ++ [z.1]) st.2)).bump left.length, w1, o3.trans (w2 _), .inr ⟨z, by rw [hZ]; exact hzZ.1, hzZ.2, ?_, ⟨by rw [hbb]; simp, hbm', h.ok, ?_, ?_⟩, ?_⟩⟩
    · simp only [nxtPrim, h.it, h.mp]
      rw [if_neg hcond, hZ, hc1]
      simp only [List.length_map, List.getElem?_map, hz]
      rfl
    · intro x hx
      rcases List.mem_append.1 hx with hx | hx
      · exact h.sub x hx
      · rw [List.mem_singleton] at hx; subst hx; rw [hZ]; exact hzZ.1
    · rw [List.nodup_append]
      refine ⟨h.nd, by simp, ?_⟩
      intro x hx y hy
      rw [List.mem_singleton] at hy; subst hy
      rintro rfl; exact hzZ.2 hx
    · have hf : Z.find? (fun e => e.1 == z.1) = some z := by
        cases hq : Z.find? (fun e => e.1 == z.1) with
        | none =>
          rw [List.find?_eq_none] at hq
          have := hq z hzZ.1
          simp at this
        | some q =>
          have q1 := List.mem_of_find?_eq_some hq
          have q2 := List.find?_some hq
          have e : q = z := zip_uniq h.ok (by rw [hZ]; exact q1) (by rw [hZ]; exact hzZ.1) (by simpa using q2)
          rw [e]
      simp only [rsem, hbb, hbm', List.getLast?_append, List.getLast?_singleton, Option.some_or, if_true]
      rw [hZ, hf]
/-- How many entries have not come. -/
def rest_ (st : List Nat × Nat) (V : List (Nat × AV × AV)) : Nat := (st.1.filter fun c => !(V.map (·.1)).contains c).length
theorem flt_lt {p : Nat → Bool} {c : Nat} (hp : p c = true) : ∀ {l : List Nat}, c ∈ l → (l.filter fun x => p x && x != c).length < (l.filter p).length
  | [], h => by simp at h
  | x :: l, h => by
    have le : (l.filter fun x => p x && x != c).length ≤ (l.filter p).length := by
      clear h
      induction l with
      | nil => simp
      | cons y l ih =>
        rw [List.filter_cons, List.filter_cons]
        cases hy : p y with
        | false => simpa [hy] using ih
        | true =>
          by_cases e : y = c
          · simp [hy, e]; omega
          · simp [hy, e]; exact ih
    rw [List.filter_cons, List.filter_cons]
    by_cases e : x = c
    · subst e
      simp [hp]
      omega
    · have hm : c ∈ l := by
        rcases List.mem_cons.1 h with q | q
        · exact absurd q.symm e
        · exact q
      have ih := flt_lt hp hm
      cases hx : p x with
      | false => simpa [hx] using ih
      | true => simp [hx, e]; exact ih
theorem Rg.less {H : AHeap} {b m : Nat} {own : Bool} {es : List (AV × AV)} {st : List Nat × Nat} {V : List (Nat × AV × AV)} (h : Rg H b m own es st V) {z : Nat × AV × AV} (hz : z ∈ st.1.zip es) (hn : z ∉ V) : rest_ st (V ++ [z]) < rest_ st V := by
  have hc : z.1 ∈ st.1 := by rw [← zip_fst h.ok]; exact List.mem_map_of_mem hz
  have hp : (!(V.map (·.1)).contains z.1) = true := by
    cases hq : (V.map (·.1)).contains z.1 with
    | false => rfl
    | true =>
      exfalso
      have hm : z.1 ∈ V.map (·.1) := by simpa using hq
      obtain ⟨v, hv, e⟩ := List.mem_map.1 hm
      have := zip_uniq h.ok (h.sub v hv) hz e
      rw [this] at hv; exact hn hv
  have := flt_lt (p := fun c => !(V.map (·.1)).contains c) hp hc
  unfold rest_
  refine Nat.lt_of_le_of_lt (Nat.le_of_eq ?_) this
  congr 2
  funext x
  simp only [List.map_append, List.map_cons, List.map_nil, List.contains_eq_mem, List.mem_append, List.mem_singleton, Bool.decide_or, Bool.not_or]
  congr 1
theorem Rg.keeps {H H' : AHeap} {b m : Nat} {own : Bool} {es : List (AV × AV)} {st : List Nat × Nat} {V : List (Nat × AV × AV)} (h : Rg H b m own es st V) {D : Nat → Prop} (k : Keeps D H H') (hb : ¬D b) (hm : ¬D m) : Rg H' b m own es st V :=
  ⟨k.obj _ _ h.it rfl hb, k.obj _ _ h.mp rfl hm, h.ok, h.sub, h.nd⟩
end Go.Am
