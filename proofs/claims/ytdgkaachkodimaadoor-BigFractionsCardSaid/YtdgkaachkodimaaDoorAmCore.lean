/- New rows that come ahead of the text's order: what the model does at once, and the small machine later. -/
import Derived.Test.YtdgkaachkodimaaDoorAmSims
import Derived.Test.YtdgkaachkodimaaDoorAmComp
set_option linter.unusedVariables false
set_option linter.unusedSimpArgs false
namespace Go.Am
open Go.RowKit
variable {G : Nat → Nat} {P : Program}
section
variable {B : Prot} {w0 : Base} {w : World} {E : Nat → Ent} {H : AHeap}
variable {C : CallF} {o : Oper} {opc : AOpc} {args : List AOpd} {env : Env} {a : Act} {v : AV} {H' : AHeap}
/-- What is made, in the model. -/
def Fresh (G : Nat → Nat) (n : Nat) (E : Nat → Ent) (fl : Fl) (ob : Obj) (Cn : Nat) : Prop :=
  match fl with
  | .row cs => ∃ us rest e fr, ob = .cells (us ++ rest).toArray e fr ∧ VRs G n E cs us ∧ us.length ≤ Cn ∧ Cn ≤ us.length + rest.length ∧ (Cn ≤ fr.1 ∨ fr.2 = 0)
  | .map => ob = .map #[] 0 ∧ Cn = 0
theorem Fresh.mono {n m : Nat} {E E' : Nat → Ent} {fl : Fl} {ob : Obj} {Cn : Nat} (hn : n ≤ m) (hE : Ext n E E') (h : Fresh G n E fl ob Cn) : Fresh G m E' fl ob Cn := by
  cases fl with
  | row cs => obtain ⟨us, rest, e, fr, h1, h2, h3⟩ := h; exact ⟨us, rest, e, fr, h1, h2.mono hn hE, h3⟩
  | map => exact h
/-- A row that is made, and the value that names it. -/
def NewRow (P : Program) (G : Nat → Nat) (n : Nat) (E : Nat → Ent) (w : World) (s : Sem Next) (fl : Fl) (vf : Nat → AV) : Prop :=
  ∃ u ob Cn, s.run P w = .ok (.value u) (w.alloc ob) ∧ Fresh G n E fl ob Cn ∧ ∀ m E2, VR G (m + 1) (upd E2 m ⟨w.heap.size, 0, Cn⟩) (vf m) u
theorem box_run {n : Nat} {t : TypeId} {x : AV} {u : Value} (hv : VR G n E x u) {s : Sem Next} (hrun : s.run P w = ((Instr.box t u).run P w).andThen fun v w' => .ok (.value v) w') {fl : Fl} {vf : Nat → AV} (hs : floRes (.w .box) [x] = some (fl, vf)) :
    NewRow P G n E w s fl vf := by
  simp only [floRes] at hs
  split at hs
  · rename_i hc
    simp only [Option.some.injEq, Prod.mk.injEq] at hs
    obtain ⟨rfl, rfl⟩ := hs
    refine ⟨.pointer (some ⟨w.heap.size, 0, none⟩), .cells (u.cells.toList ++ []).toArray t (0, 0), u.cells.toList.length, ?_, ⟨_, _, _, _, rfl, VR.cells hv hc, Nat.le_refl _, by simp, .inr rfl⟩, ?_⟩
    · rw [hrun]
      simp [Instr.box, newVar, newRow]
    · intro m E2
      refine ⟨by omega, ?_⟩
      rw [upd_same]
  · cases hs
theorem bsl_run (t : TypeId) (len : Nat) (parts : Array (Nat × Operand)) (hop : o.op = .buildSlice t len parts) {el : TypeId} (ht : P.underlying t = some (.slice el)) {m : Nat} {z : AV} (hm : sizeT P el = some m) (hz : zeroOf P el = some z) (hmz : m = z.cells.length) (hm0 : m ≠ 0) (hlen : len * m ≤ 2 ^ 24)
    (hc : withs G (.w (.bsl m len (List.replicate len z.cells).flatten (parts.toList.map fun p => (p.1 * m, m)))) (parts.toList.map (·.2)) = some (opc, args)) (he : EnvR G H.next E env a) {fl : Fl} {vf : Nat → AV} (hs : floRes opc (args.map env.ev) = some (fl, vf)) :
    NewRow P G H.next E w (execOp a.eval o) fl vf := by
  obtain ⟨h1, rfl⟩ := withs_eq hc
  have hv := opds_VRs he h1
  simp only [floRes] at hs
  cases hf : Am.fill (List.replicate len z.cells).flatten (parts.toList.map fun p => (p.1 * m, m)) (args.map env.ev) with
  | none => simp [hf] at hs
  | some cs =>
    simp only [hf] at hs
    split at hs
    · rename_i q
      simp only [Option.some.injEq, Prod.mk.injEq] at hs
      obtain ⟨rfl, rfl⟩ := hs
      obtain ⟨i, zv, i1, i2, i3⟩ := zero_info hz
      have hzv : VR G H.next E z zv := ofValue_VR i3
      -- the template in the model
      obtain ⟨us0, hus0, hz0⟩ : ∃ us0 : Array Value, (∀ w' : World, ((if len * m = 0 then pure #[] else do pure (← zeroValue el).cells : Sem (Array Value))).run P w' = .ok us0 w') ∧
          VRs G H.next E (List.replicate len z.cells).flatten (((Array.range (len * m)).map fun i => us0[i % us0.size]!).toList) := by
        by_cases h0 : len * m = 0
        · refine ⟨#[], fun w' => by simp [h0], ?_⟩
          have : len = 0 := by rcases Nat.mul_eq_zero.1 h0 with h | h; exact h; exact absurd h hm0
          subst this
          simp [VRs]
        · refine ⟨zv.cells, fun w' => by simp [h0, zeroValue, typeInfo, i1, i2], ?_⟩
          have hzc : VRs G H.next E z.cells zv.cells.toList := ofValue_cells i3
          rw [hmz]
          exact zeros_VRs hzc (by omega) len
      have hmO : mapO (fun (p : Nat × Value) => some (p.1 * m, m)) (parts.toList.map fun p => (p.1, a.eval p.2)) = some (parts.toList.map fun p => (p.1 * m, m)) := by
        generalize parts.toList = l
        induction l with
        | nil => rfl
        | cons p l ih => unfold mapO; simp [ih]
      have hv2 : VRs G H.next E (args.map env.ev) ((parts.toList.map fun p => (p.1, a.eval p.2)).map (·.2)) := by simpa [List.map_map, Function.comp_def] using hv
      obtain ⟨us', f1, f2⟩ := fill_VRs (place := fun i => some (i * m, m)) _ _ _ _ _ _ hf hz0 hmO hv2
      have hul := f2.length
      refine ⟨.slice (some ⟨w.heap.size, 0, none⟩) len len, .cells (us'.toList ++ []).toArray el (0, 0), us'.toList.length, ?_, ⟨_, _, _, _, rfl, f2, Nat.le_refl _, by simp, .inr rfl⟩, ?_⟩
      · have hps : (parts.map fun p => (p.1, a.eval p.2)).toList = parts.toList.map fun p => (p.1, a.eval p.2) := by simp
        have hrun : (Instr.buildSlice t len (parts.map fun p => (p.1, a.eval p.2))).run P w = .ok (.slice (some ⟨w.heap.size, 0, none⟩) len len) (w.alloc (.cells us' el)) := by
          have hsz : (sizeOf el).run P w = .ok m w := run_sizeOf hm
          unfold Instr.buildSlice
          simp only [Sem.run_bind, run_underlying ht, Result.andThen_ok, hsz]
          rw [if_neg (by omega)]
          have hu0 := hus0 w
          by_cases h0 : len * m = 0
          · simp only [h0, if_true, Sem.run_pure, Result.ok.injEq] at hu0
            obtain ⟨rfl, _⟩ := hu0
            rw [h0] at f1
            simp only [h0, if_true, Sem.run_bind, Sem.run_pure, Result.andThen_ok, hps, f1]
            simp [newRow]
          · simp only [h0, if_false, Sem.run_bind] at hu0 ⊢
            simp only [zeroValue, typeInfo, i1, i2, Sem.run_bind, run_program, Result.andThen_ok, Sem.run_pure, Result.ok.injEq] at hu0 ⊢
            obtain ⟨rfl, _⟩ := hu0
            simp only [hps, f1]
            simp [newRow]
        simp only [execOp, hop, Sem.run_bind, hrun, Result.andThen_ok, Sem.run_pure]
        rw [List.append_nil, Array.toArray_toList]
      · intro k E2
        refine ⟨by omega, _, _, rfl, Nat.le_refl _, fun k hk => by simpa using hk, fun hp => ?_⟩
        rw [upd_same]
        exact ⟨rfl, by show 0 + len * m ≤ us'.toList.length; omega⟩
    · cases hs
theorem mks_run (t : TypeId) (x y : Operand) (hop : o.op = .makeSlice t x y) {el : TypeId} (ht : P.underlying t = some (.slice el)) {by_ m : Nat} {z : AV} (hb : bytesT P el = some by_) (hz : zeroOf P el = some z) (hm : sizeT P el = some m) (hmz : m = z.cells.length)
    (hc : with2 G (.w (.mks by_ z.cells)) x y = some (opc, args)) (he : EnvR G H.next E env a) {fl : Fl} {vf : Nat → AV} (hs : floRes opc (args.map env.ev) = some (fl, vf)) :
    NewRow P G H.next E w (execOp a.eval o) fl vf := by
  obtain ⟨x', y', h1, h2, rfl, rfl⟩ := with2_eq hc
  have v1 := opd_VR he h1
  have v2 := opd_VR he h2
  simp only [List.map_cons, List.map_nil] at hs
  cases e1 : env.ev x' <;> rw [e1] at hs v1 <;> simp only [floRes, reduceCtorEq] at hs
  cases e2 : env.ev y' <;> rw [e2] at hs v2 <;> simp only [reduceCtorEq] at hs
  rename_i k1 l k2 c
  split at hs
  · rename_i q
    simp only [Option.some.injEq, Prod.mk.injEq] at hs
    obtain ⟨rfl, rfl⟩ := hs
    obtain ⟨q1, q2, q3, q4, q5, q6⟩ := q
    obtain ⟨i, zv, i1, i2, i3⟩ := zero_info hz
    obtain ⟨i', j1, j2⟩ := bytes_info hb
    rw [i1] at j1
    simp at j1
    subst j1
    have hzv : VR G H.next E z zv := ofValue_VR i3
    have hzc := VR.cells hzv q5
    have hl : IntKind.i64.wrap l = l := by unfold IntKind.wrap; simp [IntKind.bits, IntKind.signed]; omega
    have hcw : IntKind.i64.wrap c = c := by unfold IntKind.wrap; simp [IntKind.bits, IntKind.signed]; omega
    have hzl : zv.cells.size = z.cells.length := by have := hzc.length; simpa using this
    have hrow := zeros_VRs hzc (by omega) c.toNat
    have hb2 : ¬ ((i.bytes : Int) * c > 2 ^ 48) := by rw [Int.mul_comm, j2]; omega
    have hb3 : ¬ ((i.bytes : Int) * l > 2 ^ 48) := by
      have : (i.bytes : Int) * l ≤ (i.bytes : Int) * c := Int.mul_le_mul_of_nonneg_left q2 (by omega)
      omega
    have hrowEq : ((Array.range (c.toNat * m)).map (fun j => (if c.toNat * m = 0 then (#[] : Array Value) else zv.cells)[j % (if c.toNat * m = 0 then (#[] : Array Value) else zv.cells).size]!)) = (Array.range (c.toNat * z.cells.length)).map (fun j => zv.cells[j % zv.cells.size]!) := by
      rw [hmz]
      by_cases h0 : c.toNat * z.cells.length = 0
      · rw [h0]; simp
      · rw [if_neg h0]
    refine ⟨.slice (some ⟨w.heap.size, 0, none⟩) l.toNat c.toNat, .cells (((Array.range (c.toNat * z.cells.length)).map (fun j => zv.cells[j % zv.cells.size]!)).toList ++ []).toArray el (0, 0), c.toNat * z.cells.length, ?_, ⟨_, _, _, _, rfl, hrow, by simp, by simp, .inr rfl⟩, ?_⟩
    · have hrun : (Instr.makeSlice t (.int k1 l) (.int k2 c)).run P w = .ok (.slice (some ⟨w.heap.size, 0, none⟩) l.toNat c.toNat) (w.alloc (.cells ((Array.range (c.toNat * z.cells.length)).map (fun j => zv.cells[j % zv.cells.size]!)) el)) := by
        have hsz : (sizeOf el).run P w = .ok m w := run_sizeOf hm
        unfold Instr.makeSlice
        simp only [Sem.run_bind, run_underlying ht, Result.andThen_ok, asInt, asIntOf, Sem.run_pure, typeInfo, run_program, i1, hl, hcw]
        rw [if_neg (by simp only [Bool.or_eq_true, decide_eq_true_eq, not_or]; exact ⟨⟨⟨by omega, hb2⟩, by omega⟩, by omega⟩)]
        simp only [Sem.run_bind, run_askRoom, Result.andThen_ok, hsz]
        rw [← hrowEq]
        by_cases h0 : c.toNat * m = 0
        · simp [h0, newRow]
        · simp [h0, newRow, zeroValue, typeInfo, i1, i2]
      simp only [execOp, hop, show a.eval x = _ from v1, show a.eval y = _ from v2, Sem.run_bind, hrun, Result.andThen_ok, Sem.run_pure]
      rw [List.append_nil, Array.toArray_toList]
    · intro k E2
      refine ⟨by omega, _, _, rfl, by omega, fun k hk => by simp at hk; exact hk, fun hp => ?_⟩
      rw [upd_same]
      exact ⟨rfl, by simp⟩
  · cases hs
theorem mkM_run (t : TypeId) (hop : o.op = .makeMap t none) {fl : Fl} {vf : Nat → AV} (hs : floRes (.w .mkM) [] = some (fl, vf)) {n : Nat} : NewRow P G n E w (execOp a.eval o) fl vf := by
  simp only [floRes, Option.some.injEq, Prod.mk.injEq] at hs
  obtain ⟨rfl, rfl⟩ := hs
  refine ⟨.map (some w.heap.size), .map #[] 0, 0, ?_, ⟨rfl, rfl⟩, fun m E2 => ⟨by omega, by rw [upd_same]⟩⟩
  simp [execOp, hop, Instr.makeMap]
def floP : AOpc → Bool
  | .w .box | .w (.bsl ..) | .w (.mks ..) | .w .mkM => true
  | _ => false
theorem floRes_P {p : AOpc} {vs : List AV} {x : Fl × (Nat → AV)} (h : floRes p vs = some x) : floP p = true := by
  unfold floRes at h
  split at h
  · rfl
  · rfl
  · rfl
  · rfl
  · cases h
theorem flo_run (hc : compileOp0 P G o = some (opc, args)) (he : EnvR G H.next E env a) {fl : Fl} {vf : Nat → AV} (hs : floRes opc (args.map env.ev) = some (fl, vf)) : NewRow P G H.next E w (execOp a.eval o) fl vf := by
  have hP := floRes_P hs
  have no1 : ∀ {p : AOpc} {x : Operand}, floP p = false → with1 G p x = some (opc, args) → False := by
    intro p x hp h
    obtain ⟨_, _, e, _⟩ := with1_eq h
    rw [e, hp] at hP; cases hP
  have no2 : ∀ {p : AOpc} {x y : Operand}, floP p = false → with2 G p x y = some (opc, args) → False := by
    intro p x y hp h
    obtain ⟨_, _, _, _, e, _⟩ := with2_eq h
    rw [e, hp] at hP; cases hP
  have nos : ∀ {p : AOpc} {xs : List Operand}, floP p = false → withs G p xs = some (opc, args) → False := by
    intro p xs hp h
    rw [(withs_eq h).2, hp] at hP; cases hP
  have noM : ∀ {n : Nat} {x : Operand}, withM G n x = some (opc, args) → False := by
    intro n x h
    obtain ⟨_, _, e, _⟩ := withM_eq h
    rw [e] at hP; simp [floP] at hP
  unfold compileOp0 at hc
  split at hc
  case h_4 t hop =>
    split at hc
    · rename_i z hz
      simp at hc
      obtain ⟨rfl, rfl⟩ := hc
      obtain ⟨i, zv, i1, i2, i3⟩ := zero_info hz
      simp only [List.map_cons, List.map_nil] at hs
      by_cases hbt : builderT P t = true
      · rw [if_pos hbt] at hs; simp [floRes] at hs
      rw [if_neg hbt] at hs
      exact box_run (ofValue_VR (n := H.next) (E := E) i3) (t := t) (by simp [execOp, hop, Instr.alloc, zeroValue, typeInfo, i1, i2, Instr.box, newVar, newRow]) hs
    · cases hc
  case h_5 t x hop =>
    obtain ⟨x', h1, rfl, rfl⟩ := with1_eq hc
    simp only [List.map_cons, List.map_nil] at hs
    exact box_run (opd_VR he h1) (t := t) (by simp [execOp, hop]) hs
  case h_7 t len parts hop =>
    split at hc
    · rename_i e ht
      split at hc
      · rename_i n z hn hz
        split at hc
        · rename_i hq
          exact bsl_run t len parts hop ht hn hz hq.1 hq.2.1 hq.2.2 hc he hs
        · cases hc
      · cases hc
    · cases hc
  case h_15 t hop =>
    simp at hc
    obtain ⟨rfl, rfl⟩ := hc
    exact mkM_run t hop hs
  case h_16 t x y hop =>
    split at hc
    · rename_i e hd
      split at hc
      · rename_i by_ z n q1 q2 q3
        split at hc
        · rename_i q4; exact mks_run t x y hop hd q1 q2 q3 q4 hc he hs
        · cases hc
      · cases hc
    · cases hc
  case h_35 c hop =>
    exfalso
    unfold compileCall at hc
    cases hcal : c.callee with
    | value f => simp only [hcal] at hc; exact nos rfl hc
    | invoke r m => simp [hcal] at hc
    | builtin b =>
      simp only [hcal] at hc
      repeat' split at hc
      all_goals first
        | (cases hc; done)
        | (exact no1 rfl hc)
        | (exact no2 rfl hc)
        | (exact nos rfl hc)
        | (simp at hc; obtain ⟨rfl, _⟩ := hc; simp [floP] at hP; done)
        | (simp at hc; done)
  all_goals
    exfalso
    try unfold compileBin at hc
    try unfold compileConv at hc
    repeat' split at hc
    all_goals first
      | (cases hc; done)
      | (exact no1 rfl hc)
      | (exact no2 rfl hc)
      | (exact nos rfl hc)
      | (exact noM hc)
      | (simp at hc; obtain ⟨rfl, _⟩ := hc; simp [floP] at hP; done)
      | (simp at hc; done)
/-! ### The heap with a row that is kept back -/
def Prot.put (S : Prot) (g : Nat) (o : Obj) : Prot := fun i => if i = g then some o else S i
def Prot.del (S : Prot) (g : Nat) : Prot := fun i => if i = g then none else S i
theorem HRel.guard (h : HRel G B w0 E H w) (x : Obj) : HRel G (B.put w.heap.size x) w0 E H (w.alloc x) := by
  have hs : (w.alloc x).heap.size = w.heap.size + 1 := by show (w.heap.push _).size = _; simp
  have out : ∀ g, g < w.heap.size → B.put w.heap.size x g = B g := fun g hg => by unfold Prot.put; rw [if_neg (by omega)]
  have keep : Keep (B.put w.heap.size x) w0 (w.alloc x) := by
    refine ⟨h.below.os, h.below.tape, h.below.output, by rw [hs]; have := h.below.size; omega, fun g o hg => ?_⟩
    unfold Prot.put at hg
    split at hg
    · rename_i e; subst e; simp at hg; subst hg; exact heap_alloc_at w x
    · exact (h.below.alloc x).block g o hg
  refine ⟨keep, fun g hg => keep.lt hg, ?_, fun b hb => by rw [hs]; have := h.glt b hb; omega, h.sep, h.fresh, h.famlt, ?_, h.sepm, h.fix, h.typ0 (Ext.refl _ _) (TK.alloc _ _)⟩
  · intro b f cs hc
    have k := h.row b f cs hc
    have hg := h.glt b k.lt
    refine ⟨k.lt, fun i v hi => ?_, fun ho => ?_, fun ho => ?_⟩
    · obtain ⟨u, q1, q2⟩ := k.cell i v hi
      exact ⟨u, by rw [cell_alloc_lt hg]; exact q1, q2⟩
    · rw [out _ hg]; exact k.ro ho
    · obtain ⟨q1, q2, q3⟩ := k.own ho
      rw [out _ hg]
      exact ⟨q1, q2, fun i hi => by rw [cell_alloc_lt hg, frozen_alloc_lt hg]; exact q3 i hi⟩
  · intro m o hm ho
    obtain ⟨k1, k2, k3, ob, k4, k5⟩ := h.obj m o hm ho
    have hg := h.glt m k1
    rw [out _ hg]
    exact ⟨k1, k2, k3, ob, by rw [Below.heap_alloc _ _ _ hg]; exact k4, k5⟩
/-- The same heap, with less that is to stay. -/
theorem HRel.less {g : Nat} {ob : Obj} (h : HRel G B w0 E H w) (hg : B g = some ob) (hg0 : w0.heap.size ≤ g) : HRel G (B.del g) w0 E H w := by
  have out : ∀ i, i ≠ g → B.del g i = B i := fun i hi => by unfold Prot.del; rw [if_neg hi]
  have keep : Keep (B.del g) w0 w := h.below.sub fun i o hi => by
    unfold Prot.del at hi
    split at hi
    · cases hi
    · exact hi
  refine ⟨keep, fun i hi => keep.lt hi, ?_, h.glt, h.sep, h.fresh, h.famlt, ?_, h.sepm, h.fix, h.typ⟩
  · intro b f cs hc
    have k := h.row b f cs hc
    refine ⟨k.lt, k.cell, fun ho => ?_, fun ho => ?_⟩
    · obtain ⟨q1, q2⟩ := k.ro ho
      exact ⟨by rw [out _ (by omega)]; exact q1, q2⟩
    · obtain ⟨q1, q2⟩ := k.own ho
      refine ⟨?_, q2⟩
      unfold Prot.del
      split
      · rfl
      · exact q1
  · intro m o hm ho
    obtain ⟨k1, k2, k3, rest'⟩ := h.obj m o hm ho
    refine ⟨k1, fun ho => ?_, fun ho => ?_, rest'⟩
    · unfold Prot.del
      split
      · rfl
      · exact k2 ho
    · obtain ⟨q1, q2⟩ := k3 ho
      exact ⟨by rw [out _ (by omega)]; exact q1, q2⟩
/-- A map that was kept back. -/
theorem HRel.matM {g : Nat} (h : HRel G B w0 E H w) (hg : B g = some (.map #[] 0)) (hg0 : w0.heap.size ≤ g) : HRel G (B.del g) w0 (upd E H.next ⟨g, 0, 0⟩) (H.newObj (.map true [] ([], 0))) w := by
  have hat := h.below.block g _ hg
  have hlt : g < w.heap.size := (Array.getElem?_eq_some_iff.1 hat).1
  have h' := h.less hg hg0
  have hE := ext_upd H.next E ⟨g, 0, 0⟩
  have hgE : ∀ c, c < H.next → upd E H.next ⟨g, 0, 0⟩ c = E c := fun c hc => upd_ne _ _ _ (by omega)
  have hdel : B.del g g = none := by unfold Prot.del; rw [if_pos rfl]
  -- nothing of the small machine lies there
  have ownm : ∀ m o, H.blk m = some o → o.isRow = false → o.own = true → (E m).g ≠ g := by
    intro m o hm ho hw e
    have := (h.obj m o hm ho).2.1 hw
    rw [e, hg] at this; cases this
  have hrow : ∀ c f cs, (H.newObj (.map true [] ([], 0))).row c = some (f, cs) → H.row c = some (f, cs) ∧ c < H.next := by
    intro c f cs hc
    have hb := row_blk hc
    have hb' : upd H.blk H.next (some (.map true [] ([], 0))) c = some (.row f cs) := hb
    have e : c ≠ H.next := by intro e; subst e; rw [upd_same] at hb'; simp at hb'
    have hb2 := hb'
    rw [upd_ne _ _ _ e] at hb2
    refine ⟨?_, h.blk_lt hb2⟩
    simp only [AHeap.row, hb] at hc
    simp only [AHeap.row, hb2]
    exact hc
  refine ⟨h'.below, h'.size, ?_, ?_, ?_, ?_, ?_, ?_, ?_, ⟨Nat.le_succ_of_le h.fix.1, h.fix.2.trans hE h.fix.1⟩, h.typ1 hE (TK.refl _)⟩
  · intro c f cs hc
    obtain ⟨h1, h2⟩ := hrow c f cs hc
    exact (h'.row c f cs h1).mono (Nat.le_succ _) hE (fun _ => ⟨rfl, rfl⟩)
  · intro c hc
    have hc' : c < H.next + 1 := hc
    by_cases e : c = H.next
    · subst e; rw [upd_same]; exact hlt
    · rw [hgE c (by omega)]; exact h.glt c (by omega)
  · intro c f cs d f' cs' hc hd o1 o2 hne
    obtain ⟨h1, h2⟩ := hrow c f cs hc
    obtain ⟨h3, h4⟩ := hrow d f' cs' hd
    rw [hgE c h2, hgE d h4]
    exact h.sep _ _ _ _ _ _ h1 h3 o1 o2 hne
  · intro c hc
    have hc' : H.next + 1 ≤ c := hc
    show upd H.blk H.next _ c = none
    rw [upd_ne _ _ _ (by omega)]; exact h.fresh c (by omega)
  · intro c f cs hc
    have hc' : upd H.blk H.next (some (.map true [] ([], 0))) c = some (.row f cs) := hc
    have e : c ≠ H.next := by intro e; subst e; rw [upd_same] at hc'; simp at hc'
    rw [upd_ne _ _ _ e] at hc'
    have := h.famlt _ _ _ hc'
    show f < H.next + 1; omega
  · intro m o1 hm ho1
    have hm' : upd H.blk H.next (some (.map true [] ([], 0))) m = some o1 := hm
    by_cases e : m = H.next
    · subst e
      rw [upd_same] at hm'
      simp at hm'
      subst hm'
      rw [upd_same]
      exact ⟨Nat.lt_succ_self _, fun _ => hdel, fun h => (by cases h), _, hat, #[], 0, rfl, rfl, rfl⟩
    · rw [upd_ne _ _ _ e] at hm'
      obtain ⟨k1, k2, k3, x, k4, k5⟩ := h'.obj m o1 hm' ho1
      rw [hgE m k1]
      exact ⟨Nat.lt_succ_of_lt k1, k2, k3, x, k4, k5.mono (Nat.le_succ _) hE⟩
  · intro m o1 m' o2 hm hm' ho ho' w1 w2 hne
    have hm1 : upd H.blk H.next (some (.map true [] ([], 0))) m = some o1 := hm
    have hm2 : upd H.blk H.next (some (.map true [] ([], 0))) m' = some o2 := hm'
    by_cases e : m = H.next
    · by_cases e' : m' = H.next
      · omega
      · rw [upd_ne _ _ _ e'] at hm2
        subst e
        rw [upd_same, hgE m' (h.obj m' o2 hm2 ho').1]
        exact (ownm m' o2 hm2 ho' w2).symm
    · rw [upd_ne _ _ _ e] at hm1
      by_cases e' : m' = H.next
      · subst e'
        rw [upd_same, hgE m (h.obj m o1 hm1 ho).1]
        exact ownm m o1 hm1 ho w1
      · rw [upd_ne _ _ _ e'] at hm2
        rw [hgE m (h.obj m o1 hm1 ho).1, hgE m' (h.obj m' o2 hm2 ho').1]
        exact h.sepm m o1 m' o2 hm1 hm2 ho ho' w1 w2 hne
theorem HRel.mat {g : Nat} {cells : List AV} {us rest : List Value} {e : TypeId} {fr : Nat × Nat} {Cn : Nat} (h : HRel G B w0 E H w) (hg : B g = some (.cells (us ++ rest).toArray e fr)) (hg0 : w0.heap.size ≤ g)
    (hv : VRs G H.next E cells us) (hC : us.length ≤ Cn) (hC' : Cn ≤ us.length + rest.length) (hfr : Cn ≤ fr.1 ∨ fr.2 = 0) :
    HRel G (B.del g) w0 (upd E H.next ⟨g, 0, Cn⟩) (H.new cells) w := by
  have hat := h.below.block g _ hg
  have hlt : g < w.heap.size := (Array.getElem?_eq_some_iff.1 hat).1
  have hcell : ∀ i, w.cell? ⟨g, i, none⟩ = (us ++ rest)[i]? := fun i => by simp only [World.cell?, hat]; simp
  have out : ∀ i, i ≠ g → B.del g i = B i := fun i hi => by unfold Prot.del; rw [if_neg hi]
  have keep : Keep (B.del g) w0 w := h.below.sub fun i o hi => by
    unfold Prot.del at hi
    split at hi
    · cases hi
    · exact hi
  -- the same heap, with less that is to stay
  have h' : HRel G (B.del g) w0 E H w := by
    refine ⟨keep, fun i hi => keep.lt hi, ?_, h.glt, h.sep, h.fresh, h.famlt, ?_, h.sepm, h.fix, h.typ⟩
    · intro b f cs hc
      have k := h.row b f cs hc
      refine ⟨k.lt, k.cell, fun ho => ?_, fun ho => ?_⟩
      · obtain ⟨q1, q2⟩ := k.ro ho
        exact ⟨by rw [out _ (by omega)]; exact q1, q2⟩
      · obtain ⟨q1, q2⟩ := k.own ho
        refine ⟨?_, q2⟩
        unfold Prot.del
        split
        · rfl
        · exact q1
    · intro m o hm ho
      obtain ⟨k1, k2, k3, rest'⟩ := h.obj m o hm ho
      refine ⟨k1, fun ho => ?_, fun ho => ?_, rest'⟩
      · unfold Prot.del
        split
        · rfl
        · exact k2 ho
      · obtain ⟨q1, q2⟩ := k3 ho
        exact ⟨by rw [out _ (by omega)]; exact q1, q2⟩
  rw [new_eq_add]
  refine h'.add H.next none cells _ (.inl rfl) (fun b hb => by cases hb) keep (Nat.le_refl _) hlt ?_ (fun c f' cs' hc _ => ⟨fun i _ => rfl, fun i hi => hi, fun i _ => rfl⟩) (fun k x _ hk => hk) ?_ (TK.refl _)
  · refine ⟨by omega, ?_, fun q => (by cases q), fun _ => ?_⟩
    · intro i v hi
      rw [upd_same]
      obtain ⟨u, h1, h2⟩ := hv.get i v hi
      refine ⟨u, ?_, h2.mono (by omega) (ext_upd _ _ _)⟩
      show World.cell? _ ⟨g, 0 + i, none⟩ = _
      rw [Nat.zero_add, hcell, List.getElem?_append_left]
      · exact h1
      · exact (List.getElem?_eq_some_iff.1 h1).1
    · rw [upd_same]
      refine ⟨by unfold Prot.del; rw [if_pos rfl], by have := hv.length; show cells.length ≤ Cn; omega, fun i hi => ?_⟩
      have hi' : i < Cn := hi
      show (World.cell? _ ⟨g, 0 + i, none⟩).isSome = true ∧ World.frozen? _ ⟨g, 0 + i, none⟩ = false
      rw [Nat.zero_add, hcell]
      refine ⟨by rw [List.getElem?_eq_getElem (by rw [List.length_append]; omega)]; rfl, ?_⟩
      simp only [World.frozen?, hat]
      obtain ⟨lo, hi2⟩ := fr
      simp only [Bool.and_eq_false_iff, decide_eq_false_iff_not]
      simp only at hfr
      omega
  · intro c f' cs' hc ho _ he
    have k := h.row c f' cs' hc
    rw [ho] at k
    have := (k.own rfl).1
    have he' : (E c).g = g := he
    rw [he', hg] at this; cases this
theorem HRel.matF {g : Nat} {fl : Fl} {ob : Obj} {Cn : Nat} (h : HRel G B w0 E H w) (hg : B g = some ob) (hg0 : w0.heap.size ≤ g) (hf : Fresh G H.next E fl ob Cn) : HRel G (B.del g) w0 (upd E H.next ⟨g, 0, Cn⟩) (H.mk_ fl) w := by
  cases fl with
  | row cs => obtain ⟨us, rest, e, fr, rfl, h2, h3, h4, h5⟩ := hf; exact h.mat hg hg0 h2 h3 h4 h5
  | map => obtain ⟨rfl, rfl⟩ := hf; exact h.matM hg hg0
theorem mk_next (H : AHeap) (fl : Fl) : (H.mk_ fl).next = H.next + 1 := rfl
end
end Go.Am

/- A region's operations in whatever order its edges allow: what the text's order gives, each such order gives. -/
set_option linter.unusedVariables false
set_option linter.unusedSimpArgs false
namespace Go.Am
section
variable {C : CallF} {l : List AOper} {st : Nat → AState} {val : Nat → AV}
/-- What ran so far, as if in the text's order. -/
def envOf (l : List AOper) (val : Nat → AV) (e0 : Env) (D : Nat → Bool) : Nat → Env
  | 0 => e0
  | k + 1 => match l[k]? with
    | some o => if D k then (envOf l val e0 D k).put o.dst (val k) else envOf l val e0 D k
    | none => envOf l val e0 D k
def isW (l : List AOper) (k : Nat) : Bool := match l[k]? with | some o => o.opc.isW | none => false
def heapOf (l : List AOper) (st : Nat → AState) (D : Nat → Bool) : Nat → AHeap
  | 0 => (st 0).2
  | k + 1 => if D k && isW l k then (st (k + 1)).2 else heapOf l st D k
/-- A run in the text's order. -/
structure Ran (C : CallF) (l : List AOper) (st : Nat → AState) (val : Nat → AV) : Prop where
  step : ∀ i o, l[i]? = some o → step1 C o (st i) = some (val i, (st (i + 1)).2)
  env : ∀ i o, l[i]? = some o → (st (i + 1)).1 = (st i).1.put o.dst (val i)
theorem step1_heap {o : AOper} {s : AState} {v : AV} {H : AHeap} (h : step1 C o s = some (v, H)) (hw : o.opc.isW = false) : H = s.2 := by
  unfold step1 at h
  split at h
  · unfold osem at h
    cases ho : o.opc with
    | p q =>
      rw [ho] at h; simp only at h
      cases hp : psem q (o.args.map s.1.ev) with
      | none => simp [hp] at h
      | some z => simp [hp] at h; exact h.2.symm
    | r q =>
      rw [ho] at h; simp only at h
      cases hp : rsem q (o.args.map s.1.ev) s.2 with
      | none => simp [hp] at h
      | some z => simp [hp] at h; exact h.2.symm
    | w q => rw [ho] at hw; simp [AOpc.isW] at hw
  · simp at h; exact h.2.symm
  · cases h
theorem put_get (e : Env) (d : Option Nat) (v : AV) (t : Nat) : e.put d v t = if d = some t then v else e t := by
  cases d with
  | none => simp [Env.put]
  | some d =>
    simp only [Env.put, upd]
    by_cases h : t = d
    · subst h; simp
    · rw [if_neg h, if_neg (by simp; exact fun e => h e.symm)]
theorem envOf_congr {e0 : Env} {D D' : Nat → Bool} (t : Nat) : ∀ n, (∀ (j : Nat) o, j < n → l[j]? = some o → o.dst = some t → D j = D' j) → envOf l val e0 D n t = envOf l val e0 D' n t
  | 0, _ => rfl
  | n + 1, h => by
    have ih := envOf_congr (e0 := e0) t n (fun j o hj => h j o (by omega))
    unfold envOf
    cases hl : l[n]? with
    | none => exact ih
    | some o =>
      simp only
      by_cases hd : o.dst = some t
      · have := h n o (by omega) hl hd
        rw [this]
        split
        · rw [put_get, put_get, if_pos hd, if_pos hd]
        · exact ih
      · have e1 : ∀ (b : Bool) (e : Env), (if b = true then e.put o.dst (val n) else e) t = e t := by
          intro b e; split
          · rw [put_get, if_neg hd]
          · rfl
        rw [e1, e1]; exact ih
theorem heapOf_congr {D D' : Nat → Bool} : ∀ n, (∀ j, j < n → isW l j = true → D j = D' j) → heapOf l st D n = heapOf l st D' n
  | 0, _ => rfl
  | n + 1, h => by
    have ih := heapOf_congr n (fun j hj => h j (by omega))
    unfold heapOf
    cases hw : isW l n with
    | false => simp [ih]
    | true => rw [h n (by omega) hw]; split <;> simp_all
theorem envOf_text (r : Ran C l st val) (i : Nat) : ∀ n, n ≤ l.length → envOf l val (st 0).1 (fun j => decide (j < i)) n = (st (min i n)).1
  | 0, _ => by simp [envOf]
  | n + 1, hn => by
    have ih := envOf_text r i n (by omega)
    unfold envOf
    have hl : l[n]? = some (l[n]'(by omega)) := List.getElem?_eq_getElem _
    rw [hl]
    simp only
    by_cases h : n < i
    · simp only [h, decide_true, if_true]
      rw [ih, show min i n = n by omega, show min i (n + 1) = n + 1 by omega, r.env n _ hl]
    · simp only [h, decide_false, Bool.false_eq_true, if_false]
      rw [ih, show min i (n + 1) = min i n by omega]
theorem heapOf_text (r : Ran C l st val) (i : Nat) : ∀ n, n ≤ l.length → heapOf l st (fun j => decide (j < i)) n = (st (min i n)).2
  | 0, _ => by simp [heapOf]
  | n + 1, hn => by
    have ih := heapOf_text r i n (by omega)
    unfold heapOf
    have hl : l[n]? = some (l[n]'(by omega)) := List.getElem?_eq_getElem _
    by_cases h : n < i
    · cases hw : isW l n with
      | true => simp [h]; rw [show min i (n + 1) = n + 1 by omega]
      | false =>
        simp [h]
        rw [ih, show min i n = n by omega, show min i (n + 1) = n + 1 by omega]
        have := step1_heap (r.step n _ hl) (by simpa [isW, hl] using hw)
        exact this.symm
    · simp [h]
      rw [ih, show min i (n + 1) = min i n by omega]
/-! ### The checks, as facts -/
structure Chk (l : List AOper) : Prop where
  names : ∀ (i j : Nat) x y, i < j → l[i]? = some x → l[j]? = some y → i ∉ y.deps → (∀ d, x.dst = some d → d ∉ y.looks ∧ y.dst ≠ some d) ∧ (∀ d, y.dst = some d → d ∉ x.looks)
  writers : ∀ (i j : Nat) x y, i < j → l[i]? = some x → l[j]? = some y → x.opc.isW = true → y.opc.isW = true → i ∈ y.deps ∨ floOk l j = true
  back : ∀ (i : Nat) x, l[i]? = some x → ∀ d ∈ x.deps, d < i ∧ ∃ y, l[d]? = some y ∧ ∀ q ∈ y.deps, q ∈ x.deps
theorem mem_pairs {n i j : Nat} (h : i < j) (hj : j < n) : (i, j) ∈ pairs n := by
  unfold pairs
  rw [List.mem_flatMap]
  exact ⟨j, List.mem_range.2 hj, List.mem_map.2 ⟨i, List.mem_range.2 h, rfl⟩⟩
theorem regOk_chk (h : regOk l = true) : Chk l := by
  unfold regOk at h
  rw [Bool.and_eq_true] at h
  obtain ⟨h1, h2⟩ := h
  have lt : ∀ {i : Nat} {x : AOper}, l[i]? = some x → i < l.length := fun hx => (List.getElem?_eq_some_iff.1 hx).1
  have pk : ∀ (i j : Nat) x y, i < j → l[i]? = some x → l[j]? = some y → i ∉ y.deps → (∀ d, x.dst = some d → d ∉ y.looks ∧ y.dst ≠ some d) ∧ (∀ d, y.dst = some d → d ∉ x.looks) ∧ (x.opc.isW = true → y.opc.isW = true → floOk l j = true) := by
    intro i j x y hij hx hy hn
    have := List.all_eq_true.1 h1 (i, j) (mem_pairs hij (lt hy))
    unfold pairOk at this
    simp only [hx, hy, Bool.or_eq_true, Bool.and_eq_true] at this
    rcases this with hc | ⟨⟨c1, c2⟩, c3⟩
    · exact absurd (by simpa using hc) hn
    · refine ⟨fun d hd => ?_, fun d hd => ?_, fun wx wy => by simpa [wx, wy] using c3⟩
      · rw [hd] at c1
        simp only [Bool.and_eq_true, Bool.not_eq_true', bne_iff_ne, ne_eq] at c1
        exact ⟨by simpa using c1.1, c1.2⟩
      · rw [hd] at c2
        simpa using c2
  refine ⟨fun i j x y hij hx hy hn => ⟨(pk i j x y hij hx hy hn).1, (pk i j x y hij hx hy hn).2.1⟩, fun i j x y hij hx hy w1 w2 => ?_, fun i x hx d hd => ?_⟩
  · by_cases hn : i ∈ y.deps
    · exact .inl hn
    · exact .inr ((pk i j x y hij hx hy hn).2.2 w1 w2)
  · have hm : (x, i) ∈ l.zipIdx := by
      rw [List.mem_zipIdx_iff_getElem?]; exact hx
    have := List.all_eq_true.1 h2 (x, i) hm
    have := List.all_eq_true.1 this d hd
    simp only [Bool.and_eq_true, decide_eq_true_eq] at this
    refine ⟨this.1, ?_⟩
    cases hy : l[d]? with
    | none => simp [hy] at this
    | some y =>
      simp only [hy] at this
      exact ⟨y, rfl, fun q hq => by simpa using List.all_eq_true.1 this.2 q hq⟩
/-- Readers that float. -/
def FloatsOk (l : List AOper) (st : Nat → AState) (val : Nat → AV) : Prop :=
  ∀ (i j : Nat) x y ro, l[i]? = some x → l[j]? = some y → x.opc = .r ro → y.opc.isW = true → ¬ (if i < j then i ∈ y.deps else j ∈ x.deps) → wanted (st i).1 x.guard = some true →
    rsem ro (x.args.map (st i).1.ev) (st j).2 = some (val i) ∧ rsem ro (x.args.map (st i).1.ev) (st (j + 1)).2 = some (val i)
/-- Down-closed sets. -/
def Closed (l : List AOper) (D : Nat → Bool) : Prop := ∀ i x, l[i]? = some x → D i = true → ∀ d ∈ x.deps, D d = true
/-- The state when just the operations in D have run. -/
def stateOf (l : List AOper) (st : Nat → AState) (val : Nat → AV) (D : Nat → Bool) : AState := (envOf l val (st 0).1 D l.length, heapOf l st D l.length)
theorem ev_congr {e e' : Env} {o : AOper} (h : ∀ t ∈ o.looks, e t = e' t) : o.args.map e.ev = o.args.map e'.ev ∧ wanted e o.guard = wanted e' o.guard := by
  refine ⟨List.map_congr_left fun a ha => ?_, ?_⟩
  · cases a with
    | c v => rfl
    | t i =>
      refine h i ?_
      unfold AOper.looks
      exact List.mem_append.2 (.inl (List.mem_filterMap.2 ⟨.t i, ha, rfl⟩))
  · cases hg : o.guard with
    | none => rfl
    | some g =>
      obtain ⟨t, b⟩ := g
      have : e t = e' t := h t (by unfold AOper.looks; rw [hg]; exact List.mem_append.2 (.inr (by simp)))
      simp only [wanted, this]
/-- The least writer that has not run. -/
theorem least_or {p : Nat → Bool} (n : Nat) : (∀ j, j < n → p j = false) ∨ ∃ j, j < n ∧ p j = true ∧ ∀ k, k < j → p k = false := by
  induction n with
  | zero => exact .inl fun j hj => by omega
  | succ n ih =>
    rcases ih with h | ⟨j, h1, h2, h3⟩
    · cases hp : p n with
      | true => exact .inr ⟨n, by omega, hp, h⟩
      | false =>
        refine .inl fun j hj => ?_
        by_cases e : j = n
        · subst e; exact hp
        · exact h j (by omega)
    · exact .inr ⟨j, by omega, h2, h3⟩
theorem last_or {p : Nat → Bool} (n : Nat) : (∀ j, j < n → p j = false) ∨ ∃ j, j < n ∧ p j = true ∧ ∀ k, j < k → k < n → p k = false := by
  induction n with
  | zero => exact .inl fun j hj => by omega
  | succ n ih =>
    cases hp : p n with
    | true => exact .inr ⟨n, by omega, hp, fun k h1 h2 => by omega⟩
    | false =>
      rcases ih with h | ⟨j, h1, h2, h3⟩
      · refine .inl fun j hj => ?_
        by_cases e : j = n
        · subst e; exact hp
        · exact h j (by omega)
      · refine .inr ⟨j, by omega, h2, fun k q1 q2 => ?_⟩
        by_cases e : k = n
        · subst e; exact hp
        · exact h3 k q1 (by omega)
theorem isW_get {k : Nat} (h : isW l k = true) : ∃ o, l[k]? = some o ∧ o.opc.isW = true := by
  unfold isW at h
  cases hl : l[k]? with
  | none => simp [hl] at h
  | some o => simp [hl] at h; exact ⟨o, rfl, h⟩
theorem floOk_dep {j i k : Nat} {x b : AOper} (h : floOk l j = true) (hx : l[i]? = some x) (hj : j ∈ x.deps) (hij : j < i) (hkj : k < j) (hb : l[k]? = some b) (hw : b.opc.isW = true) : k ∈ x.deps := by
  unfold floOk at h
  cases hy : l[j]? with
  | none => simp [hy] at h
  | some y =>
    simp only [hy, Bool.and_eq_true] at h
    have := List.all_eq_true.1 h.2 (k, i) (mem_pairs (by omega) (List.getElem?_eq_some_iff.1 hx).1)
    simp only [hx, hb, hw, Bool.not_true, Bool.false_or, Bool.or_eq_true, Bool.not_eq_true', Bool.and_eq_false_iff, decide_eq_false_iff_not] at this
    rcases this with h1 | h1 | h1
    · omega
    · simp [hj] at h1
    · simpa using h1
/-- Writers come in the text's order. -/
def Pre (l : List AOper) (D : Nat → Bool) : Prop := ∀ i j, i < j → isW l i = true → isW l j = true → D j = true → D i = true
/-- What an operation looks at is what it looked at in the text's order. -/
theorem stateOf_looks (r : Ran C l st val) (ck : Chk l) {D : Nat → Bool} (hD : Closed l D) {i : Nat} {o : AOper} (ho : l[i]? = some o) (hi : D i = false) (hr : ∀ d ∈ o.deps, D d = true) : ∀ t ∈ o.looks, (stateOf l st val D).1 t = (st i).1 t := by
  have hil : i < l.length := (List.getElem?_eq_some_iff.1 ho).1
  have notD : ∀ (j : Nat) y, l[j]? = some y → i ∈ y.deps → D j = false := by
    intro j y hy hm
    cases hj : D j with
    | false => rfl
    | true => rw [hD j y hy hj i hm] at hi; cases hi
  intro t ht
  have e := envOf_text r i l.length (Nat.le_refl _)
  rw [show min i l.length = i by omega] at e
  rw [← e]
  refine envOf_congr t l.length fun j y hj hy hd => ?_
  rcases Nat.lt_trichotomy j i with h | h | h
  · have : j ∈ o.deps := by
      rcases Classical.em (j ∈ o.deps) with hm | hm
      · exact hm
      · exact absurd ht ((ck.names j i y o h hy ho hm).1 t hd).1
    rw [hr j this]; simp [h]
  · subst h; rw [hi]; simp
  · have : i ∈ y.deps := by
      rcases Classical.em (i ∈ y.deps) with hm | hm
      · exact hm
      · exact absurd ht ((ck.names i j o y h ho hy hm).2 t hd)
    rw [notD j y hy this]; simp; omega
/-- ONE OPERATION MORE: it may run, and what it gives is what the text's order gave. -/
theorem stateOf_step (r : Ran C l st val) (ck : Chk l) (fl : FloatsOk l st val) {D : Nat → Bool} (hD : Closed l D) (hp : Pre l D) {i : Nat} {o : AOper} (ho : l[i]? = some o) (hi : D i = false) (hr : ∀ d ∈ o.deps, D d = true)
    (hwb : o.opc.isW = true → ∀ j, j < i → isW l j = true → D j = true) :
    aop C o (stateOf l st val D) = some (stateOf l st val (fun j => D j || j == i)) := by
  have hil : i < l.length := (List.getElem?_eq_some_iff.1 ho).1
  -- an operation behind i that waits for i has not run
  have notD : ∀ (j : Nat) y, l[j]? = some y → i ∈ y.deps → D j = false := by
    intro j y hy hm
    cases hj : D j with
    | false => rfl
    | true => rw [hD j y hy hj i hm] at hi; cases hi
  -- the temporaries that i looks at
  have look := stateOf_looks r ck hD ho hi hr
  have notW : o.opc.isW = true → ∀ j, i < j → isW l j = true → D j = false := by
    intro hw j h hj
    cases hd : D j with
    | false => rfl
    | true => rw [hp i j h (by simp [isW, ho, hw]) hj hd] at hi; cases hi
  obtain ⟨hargs, hwant⟩ := ev_congr (o := o) look
  have hst := r.step i o ho
  -- the heap that it sees
  have heapW : o.opc.isW = true → (stateOf l st val D).2 = (st i).2 := by
    intro hw
    have e := heapOf_text r i l.length (Nat.le_refl _)
    rw [show min i l.length = i by omega] at e
    rw [← e]
    refine heapOf_congr l.length fun j hj hjw => ?_
    obtain ⟨y, hy, hyw⟩ := isW_get hjw
    rcases Nat.lt_trichotomy j i with h | h | h
    · rw [hwb hw j h hjw]; simp [h]
    · subst h; rw [hi]; simp
    · rw [notW hw j h hjw]; simp; omega
  have heapR : ∀ ro, o.opc = .r ro → wanted (st i).1 o.guard = some true → rsem ro (o.args.map (st i).1.ev) (stateOf l st val D).2 = some (val i) := by
    intro ro hro hwt
    have hnw : isW l i = false := by simp [isW, ho, hro, AOpc.isW]
    have own : rsem ro (o.args.map (st i).1.ev) (st i).2 = some (val i) := by
      unfold step1 at hst
      rw [hwt] at hst
      simp only [hro, osem] at hst
      cases hq : rsem ro (o.args.map (st i).1.ev) (st i).2 with
      | none => simp [hq] at hst
      | some z => simp [hq] at hst; rw [hst.1]
    -- a writer that has run and stands behind i
    rcases last_or (p := fun j => D j && isW l j && decide (i < j)) l.length with hno | ⟨k, k1, k2, k3⟩
    · rcases least_or (p := fun j => !D j && isW l j && decide (j < i)) l.length with hno2 | ⟨j, j1, j2, j3⟩
      · -- just those ahead of i have run
        have e := heapOf_text r i l.length (Nat.le_refl _)
        rw [show min i l.length = i by omega] at e
        have : (stateOf l st val D).2 = (st i).2 := by
          rw [← e]
          refine heapOf_congr l.length fun j hj hjw => ?_
          have a1 := hno j hj
          have a2 := hno2 j hj
          simp only [hjw, Bool.and_true] at a1 a2
          rcases Nat.lt_trichotomy j i with h | h | h
          · simp only [h, decide_true, Bool.and_true, Bool.not_eq_false'] at a2; rw [a2]; simp [h]
          · subst h; rw [hjw] at hnw; cases hnw
          · simp only [h, decide_true, Bool.and_true] at a1; rw [a1]; simp; omega
        rw [this]; exact own
      · -- the least writer ahead of i that has not run
        simp only [Bool.and_eq_true, Bool.not_eq_true', decide_eq_true_eq] at j2
        obtain ⟨⟨q1, q2⟩, q3⟩ := j2
        obtain ⟨y, hy, hyw⟩ := isW_get q2
        have e := heapOf_text r j l.length (Nat.le_refl _)
        rw [show min j l.length = j by omega] at e
        have hh : (stateOf l st val D).2 = (st j).2 := by
          rw [← e]
          refine heapOf_congr l.length fun k hk hkw => ?_
          obtain ⟨z, hz, hzw⟩ := isW_get hkw
          rcases Nat.lt_trichotomy k j with h | h | h
          · have := j3 k h
            simp only [hkw, Bool.and_true] at this
            have hki : k < i := by omega
            simp only [hki, decide_true, Bool.and_true, Bool.not_eq_false'] at this
            rw [this]; simp [h]
          · subst h; rw [q1]; simp
          · have : D k = false := by
              cases hk : D k with
              | false => rfl
              | true => rw [hp j k h q2 hkw hk] at q1; cases q1
            rw [this]; simp; omega
        rw [hh]
        refine (fl i j o y ro ho hy hro hyw ?_ hwt).1
        rw [if_neg (by omega)]
        intro hm
        rw [hr j hm] at q1; cases q1
    · -- the last writer that has run stands behind i
      simp only [Bool.and_eq_true, decide_eq_true_eq] at k2
      obtain ⟨⟨q1, q2⟩, q3⟩ := k2
      obtain ⟨y, hy, hyw⟩ := isW_get q2
      have e := heapOf_text r (k + 1) l.length (Nat.le_refl _)
      rw [show min (k + 1) l.length = k + 1 by omega] at e
      have hh : (stateOf l st val D).2 = (st (k + 1)).2 := by
        rw [← e]
        refine heapOf_congr l.length fun j hj hjw => ?_
        obtain ⟨z, hz, hzw⟩ := isW_get hjw
        rcases Nat.lt_trichotomy j k with h | h | h
        · rw [hp j k h hjw q2 q1]; simp; omega
        · subst h; rw [q1]; simp
        · have := k3 j h hj
          simp only [hjw, Bool.and_true] at this
          have hij : i < j := by omega
          simp only [hij, decide_true, Bool.and_true] at this
          rw [this]; simp; omega
      rw [hh]
      refine (fl i k o y ro ho hy hro hyw ?_ hwt).2
      rw [if_pos q3]
      intro hm
      rw [notD k y hy hm] at q1; cases q1
  -- it runs
  have hrun : step1 C o (stateOf l st val D) = some (val i, if o.opc.isW = true then (st (i + 1)).2 else (stateOf l st val D).2) := by
    unfold step1
    rw [hwant, hargs]
    unfold step1 at hst
    cases hw : wanted (st i).1 o.guard with
    | none => rw [hw] at hst; cases hst
    | some b =>
      cases b with
      | false =>
        rw [hw] at hst
        simp only [Option.some.injEq, Prod.mk.injEq] at hst ⊢
        refine ⟨hst.1, ?_⟩
        split
        · rename_i hww; rw [heapW hww, hst.2]
        · rfl
      | true =>
        rw [hw] at hst
        simp only at hst ⊢
        cases hopc : o.opc with
        | p q =>
          rw [hopc] at hst
          simp only [osem] at hst ⊢
          cases hp : psem q (o.args.map (st i).1.ev) with
          | none => simp [hp] at hst
          | some z => simp [hp] at hst; simp [hst.1, AOpc.isW]
        | r q =>
          have := heapR q hopc hw
          simp only [osem, this, AOpc.isW]
          simp
        | w q =>
          rw [hopc] at hst
          have := heapW (by rw [hopc]; rfl)
          rw [this]
          simp only [osem] at hst ⊢
          rw [hst]
          simp [AOpc.isW]
  unfold aop
  rw [hrun]
  simp only [Option.some.injEq]
  unfold stateOf
  simp only [Prod.mk.injEq]
  refine ⟨?_, ?_⟩
  · funext t
    rw [put_get]
    by_cases ht : o.dst = some t
    · rw [if_pos ht]
      -- the last to write it is i
      have : ∀ n, i < n → n ≤ l.length → envOf l val (st 0).1 (fun j => D j || j == i) n t = val i := by
        intro n
        induction n with
        | zero => intro h; omega
        | succ n ih =>
          intro h1 h2
          unfold envOf
          have hl : l[n]? = some (l[n]'(by omega)) := List.getElem?_eq_getElem _
          rw [hl]
          simp only
          by_cases hn : n = i
          · subst hn
            rw [hl] at ho
            simp at ho
            rw [if_pos (by simp), put_get, ho, if_pos ht]
          · have ih' := ih (by omega) (by omega)
            by_cases hd : (l[n]'(by omega)).dst = some t
            · have hm : i ∈ (l[n]'(by omega)).deps := by
                rcases Classical.em (i ∈ (l[n]'(by omega)).deps) with hm | hm
                · exact hm
                · exact absurd hd ((ck.names i n o _ (by omega) ho hl hm).1 t ht).2
              have := notD n _ hl hm
              rw [if_neg (by simp [this, hn])]
              exact ih'
            · split
              · rw [put_get, if_neg hd]; exact ih'
              · exact ih'
      rw [this l.length hil (Nat.le_refl _)]
    · rw [if_neg ht]
      refine envOf_congr t l.length fun j y hj hy hd => ?_
      by_cases e : j = i
      · subst e; rw [hy] at ho; simp at ho; subst ho; exact absurd hd ht
      · simp [e]
  · split
    · rename_i hw
      have e := heapOf_text r (i + 1) l.length (Nat.le_refl _)
      rw [show min (i + 1) l.length = i + 1 by omega] at e
      rw [← e]
      refine heapOf_congr l.length fun j hj hjw => ?_
      obtain ⟨y, hy, hyw⟩ := isW_get hjw
      rcases Nat.lt_trichotomy j i with h | h | h
      · rw [hwb hw j h hjw]; simp; omega
      · subst h; simp
      · rw [notW hw j h hjw]
        have : (j == i) = false := by simp; omega
        rw [this]; simp; omega
    · rename_i hw
      refine heapOf_congr l.length fun j hj hjw => ?_
      by_cases e : j = i
      · subst e; simp [isW, ho] at hjw; exact absurd hjw hw
      · simp [e]
theorem stateOf_all (r : Ran C l st val) {D : Nat → Bool} (h : ∀ j, j < l.length → D j = true) : stateOf l st val D = st l.length := by
  have e1 := envOf_text r l.length l.length (Nat.le_refl _)
  have e2 := heapOf_text r l.length l.length (Nat.le_refl _)
  rw [Nat.min_self] at e1 e2
  unfold stateOf
  refine Prod.ext ?_ ?_
  · show envOf l val (st 0).1 D l.length = (st l.length).1
    rw [← e1]
    funext t
    exact envOf_congr t l.length fun j y hj hy hd => by rw [h j hj]; simp [hj]
  · show heapOf l st D l.length = (st l.length).2
    rw [← e2]
    exact heapOf_congr l.length fun j hj hjw => by rw [h j hj]; simp [hj]
theorem stateOf_none : stateOf l st val (fun _ => false) = st 0 := by
  have e1 : ∀ n, envOf l val (st 0).1 (fun _ => false) n = (st 0).1 := by
    intro n
    induction n with
    | zero => rfl
    | succ n ih => unfold envOf; cases l[n]? <;> simp [ih]
  have e2 : ∀ n, heapOf l st (fun _ => false) n = (st 0).2 := by
    intro n
    induction n with
    | zero => rfl
    | succ n ih => unfold heapOf; simp [ih]
  unfold stateOf
  rw [e1, e2]
/-! ### The trace as a run -/
theorem trace_ran : ∀ (l : List AOper) (s : AState) (tr : List AState), atrace C l s = some tr →
    tr.length = l.length + 1 ∧ tr[0]? = some s ∧ ∀ (i : Nat) o, l[i]? = some o → ∃ s1 s2, tr[i]? = some s1 ∧ tr[i + 1]? = some s2 ∧ aop C o s1 = some s2
  | [], s, tr, h => by
    simp [atrace] at h; subst h
    exact ⟨rfl, rfl, fun i o hi => by simp at hi⟩
  | o :: os, s, tr, h => by
    unfold atrace at h
    cases h1 : aop C o s with
    | none => simp [h1] at h
    | some s' =>
      cases h2 : atrace C os s' with
      | none => simp [h1, h2] at h
      | some l' =>
        simp [h1, h2] at h
        subst h
        obtain ⟨k1, k2, k3⟩ := trace_ran os s' l' h2
        refine ⟨by simp [k1], rfl, fun i q hi => ?_⟩
        cases i with
        | zero => simp at hi; subst hi; exact ⟨s, s', rfl, by simpa using k2, h1⟩
        | succ i => simpa using k3 i q (by simpa using hi)
/-- The trace, with its states and values. -/
theorem ran_of {l : List AOper} {s s' : AState} (h : ∃ tr, atrace C l s = some tr ∧ tr.getLast? = some s' ∧ (floatsOf l).all (floatOk l tr) = true) :
    ∃ st val, Ran C l st val ∧ st 0 = s ∧ st l.length = s' ∧ FloatsOk l st val := by
  obtain ⟨tr, h1, h2, h3⟩ := h
  obtain ⟨k1, k2, k3⟩ := trace_ran l s tr h1
  let st : Nat → AState := fun i => (tr[i]?).getD s
  let val : Nat → AV := fun i => match l[i]? with | some o => (match step1 C o (st i) with | some (v, _) => v | none => .undef) | none => .undef
  have hst : ∀ (i : Nat) x, tr[i]? = some x → st i = x := fun i x hx => by show (tr[i]?).getD s = x; rw [hx]; rfl
  have ran : Ran C l st val := by
    refine ⟨fun i o ho => ?_, fun i o ho => ?_⟩
    · obtain ⟨s1, s2, q1, q2, q3⟩ := k3 i o ho
      rw [hst _ _ q1, hst _ _ q2]
      unfold aop at q3
      cases hs : step1 C o s1 with
      | none => simp [hs] at q3
      | some p =>
        obtain ⟨v, Hx⟩ := p
        simp [hs] at q3
        have : val i = v := by show (match l[i]? with | some o => _ | none => _) = v; rw [ho]; simp only [hst _ _ q1, hs]
        rw [this, ← q3]
    · obtain ⟨s1, s2, q1, q2, q3⟩ := k3 i o ho
      rw [hst _ _ q1, hst _ _ q2]
      unfold aop at q3
      cases hs : step1 C o s1 with
      | none => simp [hs] at q3
      | some p =>
        obtain ⟨v, Hx⟩ := p
        simp [hs] at q3
        have : val i = v := by show (match l[i]? with | some o => _ | none => _) = v; rw [ho]; simp only [hst _ _ q1, hs]
        rw [this, ← q3]
  refine ⟨st, val, ran, hst 0 s k2, hst l.length s' ?_, ?_⟩
  · rw [List.getLast?_eq_getElem?, k1] at h2; simpa using h2
  · intro i j x y ro hx hy hro hyw hun hwt
    have hil : i < l.length := (List.getElem?_eq_some_iff.1 hx).1
    have hjl : j < l.length := (List.getElem?_eq_some_iff.1 hy).1
    have hne : i ≠ j := by intro e; subst e; rw [hx] at hy; simp at hy; subst hy; rw [hro] at hyw; simp [AOpc.isW] at hyw
    have hmem : (i, j) ∈ floatsOf l := by
      unfold floatsOf
      rw [List.mem_filterMap]
      rcases Nat.lt_or_gt_of_ne hne with h | h
      · rw [if_pos h] at hun
        refine ⟨(i, j), mem_pairs h hjl, ?_⟩
        simp only [hx, hy]
        rw [if_neg (by simpa using hun), if_pos (by simp [hro, AOpc.isR, hyw])]
      · rw [if_neg (by omega)] at hun
        refine ⟨(j, i), mem_pairs h hil, ?_⟩
        simp only [hx, hy]
        rw [if_neg (by simpa using hun), if_neg (by simp [hro, AOpc.isW]), if_pos (by simp [hro, AOpc.isR, hyw])]
    have := List.all_eq_true.1 h3 (i, j) hmem
    obtain ⟨s1, s2, q1, q2, q3⟩ := k3 i x hx
    obtain ⟨t1, t2, p1, p2, p3⟩ := k3 j y hy
    unfold floatOk at this
    simp only [hx, q1, p1, p2, hro] at this
    rw [hst _ _ q1] at hwt
    rw [if_pos hwt] at this
    rw [hst _ _ q1, hst _ _ p1, hst _ _ p2]
    have hval : rsem ro (x.args.map s1.1.ev) s1.2 = some (val i) := by
      have := ran.step i x hx
      rw [hst _ _ q1] at this
      unfold step1 at this
      rw [hwt] at this
      simp only [hro, osem] at this
      cases hq : rsem ro (x.args.map s1.1.ev) s1.2 with
      | none => simp [hq] at this
      | some z => simp [hq] at this; rw [this.1]
    rw [hval] at this
    cases e1 : rsem ro (x.args.map s1.1.ev) t1.2 with
    | none => simp [e1] at this
    | some z1 =>
      cases e2 : rsem ro (x.args.map s1.1.ev) t2.2 with
      | none => simp [e1, e2] at this
      | some z2 =>
        simp only [e1, e2, Bool.and_eq_true] at this
        exact ⟨by rw [AV.same_eq _ _ this.1], by rw [AV.same_eq _ _ this.2]⟩
end
end Go.Am
