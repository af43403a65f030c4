/- A range over a map: the model's order, and the oracle that gives it. -/
import Derived.Test.YtdgkaachkodimaaDoorAmSims
import Derived.Test.YtdgkaachkodimaaDoorAmOra
set_option linter.unusedVariables false
set_option linter.unusedSimpArgs false
namespace Go.Am
open Go.RowKit
variable {G : Nat → Nat} {P : Program}
section
variable {B : Prot} {w0 : Base} {w : World} {E : Nat → Ent} {H : AHeap}
theorem HRel.bump1 (h : HRel G B w0 E H w) {b : Nat} (hb : b < H.next) : HRel G B w0 (upd E H.next (E b)) (H.bump 1) w := by
  have hE : Ext H.next E (upd E H.next (E b)) := ext_upd _ _ _
  have hgE : ∀ c, c < H.next → upd E H.next (E b) c = E c := fun c hc => upd_ne _ _ _ (by omega)
  have rlt : ∀ c f cs, H.row c = some (f, cs) → c < H.next := fun c f cs hc => (h.row c f cs hc).lt
  refine ⟨h.below, h.size, ?_, ?_, ?_, ?_, ?_, ?_, ?_, ⟨Nat.le_succ_of_le h.fix.1, h.fix.2.trans hE h.fix.1⟩, h.typ1 hE (TK.refl _)⟩
  · intro c f cs hc
    exact (h.row c f cs hc).mono (Nat.le_succ _) hE (fun _ => ⟨rfl, rfl⟩)
  · intro c hc
    have hc : c < H.next + 1 := hc
    by_cases e : c = H.next
    · subst e; rw [upd_same]; exact h.glt b hb
    · rw [hgE c (by omega)]; exact h.glt c (by omega)
  · intro c f cs d f' cs' hc hd o1 o2 hne
    rw [hgE c (rlt c f cs hc), hgE d (rlt d f' cs' hd)]
    exact h.sep _ _ _ _ _ _ hc hd o1 o2 hne
  · intro c hc
    have hc : H.next + 1 ≤ c := hc
    exact h.fresh c (by omega)
  · intro c f cs hc
    have := h.famlt c f cs hc
    show f < H.next + 1
    omega
  · intro m o hm ho
    obtain ⟨k1, k2, k3, x, k4, k5⟩ := h.obj m o hm ho
    rw [hgE m k1]
    exact ⟨Nat.lt_succ_of_lt k1, k2, k3, x, k4, k5.mono (Nat.le_succ _) hE⟩
  · intro m o m' o' hm hm' ho ho' w1 w2 hne
    have l1 := (h.obj m o hm ho).1
    have l2 := (h.obj m' o' hm' ho').1
    rw [hgE m l1, hgE m' l2]
    exact h.sepm m o m' o' hm hm' ho ho' w1 w2 hne
theorem HRel.bump (h : HRel G B w0 E H w) {b : Nat} (hb : b < H.next) : ∀ n, ∃ E', Ext H.next E E' ∧ HRel G B w0 E' (H.bump n) w
  | 0 => ⟨E, Ext.refl _ _, h⟩
  | n + 1 => by
    obtain ⟨E', h1, h2⟩ := h.bump hb n
    have hb' : b < (H.bump n).next := Nat.lt_of_lt_of_le hb (Nat.le_add_right _ _)
    exact ⟨_, h1.trans (ext_upd _ _ _) (Nat.le_add_right _ _), h2.bump1 hb'⟩
theorem rng_sound {o : Oper} {a : Act} (t : TypeId) (x : Operand) (hop : o.op = .range t x) {kt et : TypeId} (ht : P.underlying t = some (.map kt et)) {v v' : AV} {H' : AHeap} (hv : VR G H.next E v (a.eval x)) (h : HRel G B w0 E H w) (hs : rngPrim [v] H = some (v', H')) :
    Out P G B w0 E H w (execOp a.eval o) v' H' := by
  cases v <;> simp only [rngPrim, reduceCtorEq] at hs
  rename_i p
  have hnew : ∀ ob, (newObj ob).run P w = .ok w.heap.size (w.alloc ob) := fun ob => by simp only [newObj, Sem.run]; rfl
  cases p with
  | none =>
    simp only [Option.some.injEq, Prod.mk.injEq] at hs
    obtain ⟨rfl, rfl⟩ := hs
    have e : a.eval x = .map none := hv
    refine ⟨.pointer (some ⟨w.heap.size, 0, none⟩), _, _, .inl ?_, ⟨by show H.next < H.next + 1; omega, by rw [upd_same]⟩, by show H.next ≤ H.next + 1; omega, ext_upd _ _ _, h.newObj rfl rfl (x := .mapIter none 0 #[] 0) ⟨rfl, (fun b hb => by cases hb), rfl⟩⟩
    simp [execOp, hop, Instr.range, run_underlying ht, e, hnew]
  | some m =>
    simp only at hs
    cases hm : H.blk m with
    | none => simp [hm] at hs
    | some ob =>
      cases ob with
      | row f cs => simp [hm] at hs
      | sit s pos => simp [hm] at hs
      | mit i c d l => simp [hm] at hs
      | dq t => simp [hm] at hs
      | map own es st =>
        simp only [hm, Option.some.injEq, Prod.mk.injEq] at hs
        obtain ⟨rfl, rfl⟩ := hs
        obtain ⟨k1, k2, k3, es', clock, k4, k5, k6⟩ := h.map m own es st hm
        have e : a.eval x = .map (some (E m).g) := hv.2
        have hget : (getObj (E m).g).run P w = .ok (.map es' clock) w := by simp only [getObj, Sem.run, k4]
        have hst : st.2 = clock := by rw [k6]
        refine ⟨.pointer (some ⟨w.heap.size, 0, none⟩), _, _, .inl ?_, ⟨by show H.next < H.next + 1; omega, by rw [upd_same]⟩, by show H.next ≤ H.next + 1; omega, ext_upd _ _ _, h.newObj rfl rfl (x := .mapIter (some (E m).g) clock #[] clock) ⟨rfl, (fun b hb => by cases hb; exact k1), by rw [hst]; rfl⟩⟩
        simp [execOp, hop, Instr.range, run_underlying ht, e, hget, hnew]
def candsC (es : List MapEntry) (since : Nat) (seen : List Nat) : List (Option MapEntry) :=
  let left := es.filter fun e => !seen.contains e.born
  let old := left.filter fun e => decide (e.born < since)
  let new := left.filter fun e => decide (since ≤ e.born)
  (if old.isEmpty then [none] else []) ++ (old ++ new).map some
def OptR (G : Nat → Nat) (n : Nat) (E : Nat → Ent) : Option (Nat × AV × AV) → Option MapEntry → Prop
  | none, y => y = none
  | some x, y => ∃ e, y = some e ∧ EntR G n E x e
theorem cands_rel {n : Nat} {as : List (Nat × AV × AV)} {es : List MapEntry} (h : EntsB G n E as es) (since : Nat) (seen : List Nat) :
    (cands as since seen).length = (candsC es since seen).length ∧ ∀ (i : Nat) x, (cands as since seen)[i]? = some x → ∃ y, (candsC es since seen)[i]? = some y ∧ OptR G n E x y := by
  have hl := h.filter (p := fun b => !seen.contains b)
  have ho := hl.filter (p := fun b => decide (b < since))
  have hn := hl.filter (p := fun b => decide (since ≤ b))
  have ha := ho.append hn
  unfold cands candsC
  simp only
  obtain ⟨oa, hoa⟩ : ∃ oa, ((as.filter fun e => !seen.contains e.1).filter fun e => decide (e.1 < since)) = oa := ⟨_, rfl⟩
  obtain ⟨na, hna⟩ : ∃ na, ((as.filter fun e => !seen.contains e.1).filter fun e => decide (since ≤ e.1)) = na := ⟨_, rfl⟩
  obtain ⟨oc, hoc⟩ : ∃ oc, ((es.filter fun e => !seen.contains e.born).filter fun e => decide (e.born < since)) = oc := ⟨_, rfl⟩
  obtain ⟨nc, hnc⟩ : ∃ nc, ((es.filter fun e => !seen.contains e.born).filter fun e => decide (since ≤ e.born)) = nc := ⟨_, rfl⟩
  rw [hoa, hna, hoc, hnc]
  rw [hoa, hoc] at ho
  rw [hoa, hoc, hna, hnc] at ha
  have tail : ∀ (i : Nat) x, ((oa ++ na).map some)[i]? = some x → ∃ y, ((oc ++ nc).map some)[i]? = some y ∧ OptR G n E x y := by
    intro i x hx
    rw [List.getElem?_map] at hx
    cases hg : (oa ++ na)[i]? with
    | none => simp [hg] at hx
    | some z =>
      simp [hg] at hx
      subst hx
      obtain ⟨e, e1, e2⟩ := ha.get hg
      exact ⟨some e, by rw [List.getElem?_map, e1]; rfl, e, rfl, e2⟩
  have hlen := ha.len
  cases oa with
  | nil =>
    have : oc = [] := ho
    subst this
    refine ⟨by simpa using hlen, fun i x hx => ?_⟩
    cases i with
    | zero => simp at hx; subst hx; exact ⟨none, by simp, rfl⟩
    | succ i => simpa using tail i x (by simpa using hx)
  | cons z r =>
    obtain ⟨e, oc', rfl, _⟩ := ho
    exact ⟨by simpa using hlen, fun i x hx => by simpa using tail i x (by simpa using hx)⟩
theorem nxt_sound {o : Oper} {a : Act} (x : Operand) (hop : o.op = .next x false) {v : AV} (hv : VR G H.next E v (a.eval x)) (h : HRel G B w0 E H w) {ω : Ora} (hs : ∀ ω', Agree ω ω' H.next → ∃ r, nxtPrim ω' [v] H = some r) :
    ∃ ω' v' H', Agree ω ω' H.next ∧ nxtPrim ω' [v] H = some (v', H') ∧ Out P G B w0 E H w (execOp a.eval o) v' H' := by
  obtain ⟨r0, hr0⟩ := hs ω .refl
  cases v <;> simp only [nxtPrim, reduceCtorEq] at hr0
  rename_i p
  cases p with
  | none => simp at hr0
  | some p =>
    obtain ⟨b, off⟩ := p
    cases off with
    | succ k => simp at hr0
    | zero =>
      simp only at hr0
      cases hb : H.blk b with
      | none => simp [hb] at hr0
      | some ob =>
        cases ob with
        | row f cs => simp [hb] at hr0
        | map own es st => simp [hb] at hr0
        | sit s pos => simp [hb] at hr0
        | dq t => simp [hb] at hr0
        | mit mo since seen last =>
          obtain ⟨k1, k2, k3, xo, k4, k5⟩ := h.obj b _ hb rfl
          obtain ⟨k6, k7, rfl⟩ := k5
          have hptr : a.eval x = .pointer (some ⟨(E b).g, 0, none⟩) := by have := hv.2; rw [k6] at this; exact this
          have hget : (getObj (E b).g).run P w = .ok (.mapIter (mo.map fun b => (E b).g) since seen.toArray last) w := by simp only [getObj, Sem.run, k4]
          have hex : ∀ {val : Value} {w1 : World}, (Instr.next (.pointer (some ⟨(E b).g, 0, none⟩)) false o.type).run P w = .ok val w1 → (execOp a.eval o).run P w = .ok (.value val) w1 := by
            intro val w1 hr
            simp [execOp, hop, hptr, hr]
          cases mo with
          | none =>
            refine ⟨ω, .tup [.bool false], H, .refl, by simp [nxtPrim, hb], ⟨.tuple #[.bool false], w, E, .inl (hex ?_), ⟨_, rfl, ⟨_, _, rfl, rfl, rfl⟩⟩, Nat.le_refl _, Ext.refl _ _, h⟩⟩
            simp [Instr.next, hget]
          | some m =>
            simp only [hb] at hr0
            cases hm : H.blk m with
            | none => simp [hm] at hr0
            | some om =>
              cases om with
              | row f cs => simp [hm] at hr0
              | sit s pos => simp [hm] at hr0
              | mit i c d l => simp [hm] at hr0
              | dq t => simp [hm] at hr0
              | map own es st =>
                obtain ⟨m1, m2, m3, es', clock, m4, m5, m6⟩ := h.map m own es st hm
                subst m6
                have hgm : (getObj (E m).g).run P w = .ok (.map es' clock) w := by simp only [getObj, Sem.run, m4]
                have hrel := cands_rel (EntsB.of m5) since seen
                simp only [hm] at hr0
                split at hr0
                · cases hr0
                · rename_i hcond
                  obtain ⟨c, hc⟩ : ∃ c, cands (List.zip (es'.toList.map (·.born)) es) since seen = c := ⟨_, rfl⟩
                  obtain ⟨cc, hcc⟩ : ∃ cc, candsC es'.toList since seen = cc := ⟨_, rfl⟩
                  rw [hc, hcc] at hrel
                  rw [hc] at hr0
                  have hpos : 0 < c.length := by
                    rcases Nat.eq_zero_or_pos c.length with h0 | h0
                    · have : c = [] := List.eq_nil_of_length_eq_zero h0
                      subst this
                      simp at hr0
                    · exact h0
                  have harr : ((if ((es'.filter fun e => !seen.toArray.contains e.born).filter fun e => decide (e.born < since)).isEmpty = true then #[none] else #[]) ++
                      (((es'.filter fun e => !seen.toArray.contains e.born).filter fun e => decide (e.born < since)) ++ ((es'.filter fun e => !seen.toArray.contains e.born).filter fun e => decide (e.born ≥ since))).map some : Array (Option MapEntry)) = cc.toArray := by
                    apply Array.ext'
                    rw [← hcc]
                    unfold candsC
                    simp
                    split <;> rfl
                  have step : ∀ (q : Nat) (w1 : World), (choose (.mapNext cc.length)).run P w = .ok q w1 → (Instr.next (.pointer (some ⟨(E b).g, 0, none⟩)) false o.type).run P w =
                      ((match cc[q]? with
                        | some (some e) => do
                          setObj (E b).g (.mapIter (some (E m).g) since (seen.toArray.push e.born) clock)
                          pure (.tuple #[.bool true, e.key, e.val])
                        | some none => pure (.tuple #[.bool false])
                        | none => stuck "Next: no such candidate" : Sem Value)).run P w1 := by
                    intro q w1 hq
                    unfold Instr.next
                    simp only [Sem.run_bind, hget, hgm, Result.andThen_ok, Option.map_some]
                    rw [harr]
                    simp only [List.size_toArray]
                    rw [if_neg]
                    · simp only [hq, Sem.run_bind, Result.andThen_ok, List.getElem?_toArray]
                      rfl
                    · intro hall
                      apply hcond
                      simp only [Bool.and_eq_true, Bool.not_eq_true'] at hall
                      obtain ⟨⟨q1, q2⟩, q3⟩ := hall
                      refine ⟨by simpa using q1, ?_, ?_⟩
                      · have hl := (EntsB.of m5).len
                        simp only [List.length_zip, List.length_map] at hl
                        cases es with
                        | nil =>
                          have : es'.toList = [] := m5
                          have : es' = #[] := by simpa using this
                          rw [this] at q2; simp at q2
                        | cons _ _ => rfl
                      · have q4 := q3
                        rw [← Array.all_toList] at q4
                        rw [List.all_map]
                        simpa [Function.comp_def] using q4
                  have hq : ∃ q w1, (choose (.mapNext cc.length)).run P w = .ok q w1 ∧ q < cc.length ∧ (w1 = w ∨ w1 = w.drew) := by
                    have hcl : 0 < cc.length := by rw [← hrel.1]; exact hpos
                    unfold choose
                    simp only [Sem.run]
                    by_cases hf : (Question.mapNext cc.length).forced = true
                    · rw [if_pos hf]; exact ⟨0, w, rfl, hcl, .inl rfl⟩
                    · rw [if_neg hf]; exact ⟨_, _, rfl, Nat.mod_lt _ hcl, .inr rfl⟩
                  obtain ⟨q, w1, q1, q2, q3⟩ := hq
                  have hstep := step q w1 q1
                  have h1 : HRel G B w0 E H w1 := by
                    rcases q3 with rfl | rfl
                    · exact h
                    · exact h.drew
                  have k4' : w1.heap[(E b).g]? = some (.mapIter (some (E m).g) since seen.toArray last) := by
                    rcases q3 with rfl | rfl
                    · exact k4
                    · exact k4
                  have hqc : q < c.length := by rw [hrel.1]; exact q2
                  obtain ⟨z, hz⟩ : ∃ z, c[q]? = some z := ⟨_, List.getElem?_eq_getElem hqc⟩
                  obtain ⟨y, hy, hr⟩ := hrel.2 q z hz
                  rw [hy] at hstep
                  have hag : Agree ω (aim ω H.next q) H.next := aim_agree ω H.next q
                  have hsel : c[choice (aim ω H.next q) H.next (c.length - 1)]? = some z := by
                    have := aim_choice ω H.next q (c.length - 1) 0 (by omega) (by omega)
                    rw [Nat.add_zero, Nat.sub_zero] at this
                    rw [this]; exact hz
                  have hle : H.next ≤ H.next + c.length := Nat.le_add_right _ _
                  cases z with
                  | none =>
                    have : y = none := hr
                    subst this
                    obtain ⟨E2, hE, hB⟩ := h1.bump k1 c.length
                    refine ⟨aim ω H.next q, .tup [.bool false], H.bump c.length, hag, ?_, ⟨.tuple #[.bool false], w1, E2, .inl (hex hstep), ⟨_, rfl, ⟨_, _, rfl, rfl, rfl⟩⟩, hle, hE, hB⟩⟩
                    simp only [nxtPrim, hb, hm]
                    rw [if_neg hcond, hc, hsel]
                  | some z =>
                    obtain ⟨i, k, v⟩ := z
                    obtain ⟨e, rfl, e1, e2, e3⟩ := hr
                    have e1 : i = e.born := e1
                    subst e1
                    have hset : ∀ ob, (setObj (E b).g ob).run P w1 = .ok () (setW w1 (E b).g ob) := fun ob => by simp only [setObj, Sem.run, k4']; rfl
                    have h2 := h1.setObj hb rfl rfl (o2 := .mit (some m) since (seen ++ [e.born]) clock) rfl rfl (x2 := .mapIter (some (E m).g) since (seen.toArray.push e.born) clock) ⟨k6, fun b hb => by cases hb; exact m1, by simp⟩
                    obtain ⟨E2, hE, hB⟩ := h2.bump k1 c.length
                    refine ⟨aim ω H.next q, .tup [.bool true, k, v], (H.setObj b (.mit (some m) since (seen ++ [e.born]) clock)).bump c.length, hag, ?_, ⟨.tuple #[.bool true, e.key, e.val], _, E2, .inl (hex ?_), ⟨_, rfl, ⟨_, _, rfl, rfl, _, _, rfl, e2.mono hle hE, _, _, rfl, e3.mono hle hE, rfl⟩⟩, hle, hE, hB⟩⟩
                    · simp only [nxtPrim, hb, hm]
                      rw [if_neg hcond, hc, hsel]
                    · rw [hstep]
                      simp only [Sem.run_bind, hset, Result.andThen_ok, Sem.run_pure]
end
end Go.Am
