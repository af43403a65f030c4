/- Operations that read the heap, and those that write: each gives in the model what it gives in the small machine. -/
import Derived.Test.YtjmiblcdjkcgoaaAmSimP5
import Derived.Laws.BytesArg
import Derived.Lib.ConvBytes
import Derived.MapKept
set_option linter.unusedVariables false
set_option linter.unusedSimpArgs false
namespace Go.Am
open Go.RowKit
variable {G : Nat → Nat} {P : Program}
section
variable {B : Nat} {w0 w : World} {E : Nat → Ent} {H : AHeap}
variable {C : CallF} {o : Oper} {opc : AOpc} {args : List AOpd} {env : Env} {a : Act} {v : AV} {H' : AHeap}

/-! ### Loads -/
theorem HRel.loadCells (h : HRel G B w0 E H w) {b off n : Nat} {cs : List AV} (hl : H.ld b off n = some cs) :
    b < H.next ∧ ∃ us, VRs G H.next E cs us ∧ (Go.loadCells ⟨(E b).g, (E b).o + off, none⟩ n).run P w = .ok us.toArray w ∧ us.length = n ∧ (∀ (j : Nat) u, us[j]? = some u → w.cell? ⟨(E b).g, (E b).o + off + j, none⟩ = some u) := by
  obtain ⟨h1, h2, us, h3, h4⟩ := h.ld hl
  have hul := h3.length
  refine ⟨h2, us, h3, ?_, by omega, h4⟩
  have := run_loadCells_list (P := P) w ⟨(E b).g, (E b).o + off, none⟩ us (fun j u hj => by rw [add_at]; exact h4 j u hj)
  rwa [hul, h1] at this

theorem s_ld (t : TypeId) (x : Operand) (hop : o.op = .load t x) {m : Nat} {g : Bool} (hm : sizeT P t = some m) (hg : aggT P t = some g) (hgm : g = true ∨ m = 1)
    (hc : with1 G (.r (.ld m g)) x = some (opc, args)) (he : EnvR G H.next E env a) (h : HRel G B w0 E H w) (hs : osem C opc (args.map env.ev) H = some (v, H')) :
    Out P G B w0 E H w (execOp a.eval o) v H' := by
  obtain ⟨x', h1, rfl, rfl⟩ := with1_eq hc
  obtain ⟨h2, rfl⟩ := osem_r hs
  have hv := opd_VR he h1
  simp only [List.map_cons, List.map_nil] at h2
  cases e : env.ev x' <;> rw [e] at h2 hv <;> simp only [rsem, reduceCtorEq] at h2
  rename_i p
  cases p with
  | none => simp at h2
  | some p =>
    obtain ⟨b, off⟩ := p
    simp only at h2
    cases hl : H'.ld b off m with
    | none => simp [hl] at h2
    | some cs =>
      simp only [hl] at h2
      obtain ⟨q1, us, q2, q3, q4, q5⟩ := h.loadCells (P := P) hl
      cases g with
      | true =>
        simp at h2
        subst h2
        refine Out.pure h (u := .agg us.toArray) ?_ ⟨us.toArray, rfl, by simpa using q2⟩
        simp [execOp, hop, hv.2, Instr.loadAt, Instr.sureAddr, loadVar, run_isAgg hg, run_sizeOf hm, q3]
      | false =>
        simp at h2
        obtain ⟨u, q6, q7⟩ := q2.get _ _ h2
        have q8 := q5 0 u q6
        simp only [Nat.add_zero] at q8
        refine Out.pure h (u := u) ?_ q7
        simp [execOp, hop, hv.2, Instr.loadAt, Instr.sureAddr, loadVar, run_isAgg hg, q8]

/-- The cells of a slice or a string, as the model reads them. -/
theorem HRel.firstCells (h : HRel G B w0 E H w) {sz m : Nat} {x : AV} {u : Value} (hv : VR G H.next E x u) (hl : Am.lenOf x = some m) {cs : List AV} (hc : H.cellsOf sz x = some cs) :
    (Builtin.lenOf u).run P w = .ok m w ∧ ∃ us, VRs G H.next E cs us ∧ us.length = m * sz ∧ (∀ w' : World, (∀ c u', w.cell? c = some u' → w'.cell? c = some u') → (Builtin.firstCells sz m u).run P w' = .ok us.toArray w') := by
  cases x <;> simp only [Am.lenOf, reduceCtorEq, Option.some.injEq] at hl
  · rename_i s
    subst hl
    simp only [AHeap.cellsOf] at hc
    split at hc
    case isFalse => cases hc
    rename_i hsz
    subst hsz
    simp only [Option.some.injEq] at hc
    subst hc
    rw [show u = _ from hv]
    refine ⟨by simp [Builtin.lenOf, bs_size], s.map fun c => .int .u8 c.toNat, ?_, by simp, ?_⟩
    · refine VRs.of_get (by simp) (fun i v hi => ?_)
      rw [List.getElem?_map] at hi ⊢
      cases hsi : s[i]? with
      | none => simp [hsi] at hi
      | some c => simp [hsi] at hi; subst hi; exact ⟨_, rfl, rfl⟩
    · intro w' _
      have : ((⟨⟨s⟩⟩ : ByteArray).extract 0 s.length) = ⟨⟨s⟩⟩ := by rw [bs_extract]; simp
      simp [Builtin.firstCells, this]
  · rename_i p sv len cap
    subst hl
    cases p with
    | none =>
      obtain ⟨rfl, rfl⟩ := hv
      simp [AHeap.cellsOf] at hc
      subst hc
      refine ⟨by simp [Builtin.lenOf], [], rfl, by simp, fun w' _ => by simp [Builtin.firstCells]⟩
    | some p =>
      obtain ⟨b, off⟩ := p
      obtain ⟨q1, ad, c, rfl, q3, q4, q5⟩ := hv
      simp only [AHeap.cellsOf] at hc
      refine ⟨by simp [Builtin.lenOf], ?_⟩
      split at hc
      · rename_i h0
        simp at hc
        subst hc; subst h0
        refine ⟨[], rfl, by simp, fun w' _ => by simp [Builtin.firstCells, Go.loadCells, loadCellsFrom]⟩
      · rename_i h0
        obtain ⟨q6, _⟩ := q5 (by omega)
        obtain ⟨_, us, r2, _, r4, r5⟩ := h.loadCells (P := P) hc
        refine ⟨us, r2, r4, fun w' hw' => ?_⟩
        rw [q6]
        have := run_loadCells_list (P := P) w' ⟨(E b).g, (E b).o + off, none⟩ us (fun j u hj => by rw [add_at]; exact hw' _ _ (r5 j u hj))
        rw [r4] at this
        simpa [Builtin.firstCells] using this

theorem bytesOf_VRs {n : Nat} {E : Nat → Ent} : ∀ {cs : List AV} {l : List UInt8} {us : List Value}, bytesOf cs = some l → VRs G n E cs us → ∃ xs : List Int, us = xs.map (Value.int .u8) ∧ l = xs.map fun n => UInt8.ofNat n.toNat
  | [], l, us, h, hv => by simp [bytesOf] at h; subst h; exact ⟨[], by rw [show us = [] from hv]; rfl, rfl⟩
  | c :: cs, l, us, h, hv => by
    obtain ⟨u, us', rfl, h1, h2⟩ := hv
    cases c <;> (try (simp [bytesOf] at h; done))
    rename_i k i
    cases k <;> (try (simp [bytesOf] at h; done))
    unfold bytesOf at h
    cases hb : bytesOf cs with
    | none => simp [hb] at h
    | some l' =>
      simp [hb] at h
      subst h
      obtain ⟨xs, rfl, rfl⟩ := bytesOf_VRs hb h2
      exact ⟨i :: xs, by rw [show u = _ from h1]; rfl, rfl⟩

theorem s_b2s (s d e : TypeId) (x : Operand) (hop : o.op = .convert s d x) (q1 : P.underlying s = some (.slice e)) (q2 : P.underlying d = some .string) (q3 : P.underlying e = some (.int .u8))
    (hc : with1 G (.r .b2s) x = some (opc, args)) (he : EnvR G H.next E env a) (h : HRel G B w0 E H w) (hs : osem C opc (args.map env.ev) H = some (v, H')) :
    Out P G B w0 E H w (execOp a.eval o) v H' := by
  obtain ⟨x', h1, rfl, rfl⟩ := with1_eq hc
  obtain ⟨h2, rfl⟩ := osem_r hs
  have hv := opd_VR he h1
  simp only [List.map_cons, List.map_nil] at h2
  cases e1 : env.ev x' <;> rw [e1] at h2 hv <;> simp only [rsem, reduceCtorEq] at h2
  rename_i p sv len cap
  cases hcc : H'.cellsOf 1 (.slc p sv len cap) with
  | none => simp [hcc] at h2
  | some cs =>
    simp only [hcc] at h2
    cases hb : bytesOf cs with
    | none => simp [hb] at h2
    | some l =>
      simp [hb] at h2
      subst h2
      cases p with
      | none =>
        obtain ⟨rfl, hu⟩ := hv
        simp [AHeap.cellsOf] at hcc
        subst hcc
        simp [bytesOf] at hb
        subst hb
        refine Out.pure h (u := .string ByteArray.empty) ?_ rfl
        simp [execOp, hop, hu, run_convert_bytes_nil w s e q1 q3 0 0 d q2]
      | some p =>
        obtain ⟨b, off⟩ := p
        obtain ⟨r1, ad, c, hu, r3, r4, r5⟩ := hv
        simp only [AHeap.cellsOf] at hcc
        split at hcc
        · rename_i h0
          simp at hcc
          subst hcc; subst h0
          simp [bytesOf] at hb
          subst hb
          refine Out.pure h (u := .string ByteArray.empty) ?_ rfl
          simp only [execOp, hop, hu]
          simp [convert, run_underlying q1, run_underlying q2, run_underlying q3, Conv.bytesToString, Go.loadCells, loadCellsFrom]
        · rename_i h0
          obtain ⟨q6, _⟩ := r5 (by omega)
          obtain ⟨_, us, t2, _, t4, t5⟩ := h.loadCells (P := P) hcc
          obtain ⟨xs, rfl, rfl⟩ := bytesOf_VRs hb t2
          have hlen : xs.length = len := by simpa using t4
          have := run_convert_bytes_arg (P := P) w s e q1 q3 (E b).g ((E b).o + off) len c xs hlen (fun i hi => t5 i _ (by simp [List.getElem?_eq_getElem (show i < xs.length by omega), List.getD])) d q2
          refine Out.pure h (u := .string (strOfNums xs)) ?_ rfl
          simp [execOp, hop, hu, q6, this]

/-! ### New rows -/
/-- A value in a new row, for whoever makes one. -/
theorem Out.row (h : HRel G B w0 E H w) {s : Sem Next} {v : AV} {u : Value} {cells : List AV} {us rest : List Value} (hv : VRs G H.next E cells us) {Cn : Nat} (hC : us.length ≤ Cn) (hC' : Cn ≤ us.length + rest.length) {e : TypeId} {fr : Nat × Nat} (hfr : Cn ≤ fr.1 ∨ fr.2 = 0)
    (hr : s.run P w = .ok (.value u) (w.alloc (.cells (us ++ rest).toArray e fr))) (hu : VR G (H.next + 1) (upd E H.next ⟨w.heap.size, 0, Cn⟩) v u) : Out P G B w0 E H w s v (H.new cells) :=
  ⟨u, _, upd E H.next ⟨w.heap.size, 0, Cn⟩, .inl hr, hu, by show H.next ≤ H.next + 1; omega, ext_upd _ _ _, h.new cells us rest hv Cn hC hC' e fr hfr⟩

theorem box_core (h : HRel G B w0 E H w) {t : TypeId} {x : AV} {u : Value} (hv : VR G H.next E x u) {s : Sem Next} (hrun : s.run P w = ((Instr.box t u).run P w).andThen fun v w' => .ok (.value v) w') (hs : wsem C .box [x] H = some (v, H')) :
    Out P G B w0 E H w s v H' := by
  simp only [wsem] at hs
  split at hs
  · rename_i hc
    simp only [Option.some.injEq, Prod.mk.injEq] at hs
    obtain ⟨rfl, rfl⟩ := hs
    have hvc := VR.cells hv hc
    refine Out.row h (rest := []) (Cn := u.cells.toList.length) hvc (Nat.le_refl _) (by simp) (.inr rfl) (e := t) (fr := (0, 0)) (u := .pointer (some ⟨w.heap.size, 0, none⟩)) ?_ ?_
    · rw [hrun]
      simp [Instr.box, newVar, newRow]
    · refine ⟨by omega, ?_⟩
      rw [upd_same]
  · cases hs

theorem s_box (t : TypeId) (x : Operand) (hop : o.op = .box t x) (hc : with1 G (.w .box) x = some (opc, args)) (he : EnvR G H.next E env a) (h : HRel G B w0 E H w) (hs : osem C opc (args.map env.ev) H = some (v, H')) :
    Out P G B w0 E H w (execOp a.eval o) v H' := by
  obtain ⟨x', h1, rfl, rfl⟩ := with1_eq hc
  simp only [List.map_cons, List.map_nil] at hs
  exact box_core (C := C) h (opd_VR he h1) (t := t) (by simp [execOp, hop]) hs

theorem s_alloc (t : TypeId) (hop : o.op = .alloc t) {z : AV} (hz : zeroOf P t = some z) (hc : some (AOpc.w .box, [AOpd.c z]) = some (opc, args)) (h : HRel G B w0 E H w) (hs : osem C opc (args.map env.ev) H = some (v, H')) :
    Out P G B w0 E H w (execOp a.eval o) v H' := by
  simp at hc
  obtain ⟨rfl, rfl⟩ := hc
  obtain ⟨i, zv, i1, i2, i3⟩ := zero_info hz
  simp only [List.map_cons, List.map_nil] at hs
  exact box_core (C := C) h (ofValue_VR (n := H.next) (E := E) i3) (t := t) (by simp [execOp, hop, Instr.alloc, zeroValue, typeInfo, i1, i2, Instr.box, newVar, newRow]) hs

theorem s_st (t : TypeId) (x y : Operand) (hop : o.op = .store t x y) {m : Nat} (hm : sizeT P t = some m) (hc : with2 G (.w (.st m)) x y = some (opc, args)) (he : EnvR G H.next E env a) (h : HRel G B w0 E H w) (hs : osem C opc (args.map env.ev) H = some (v, H')) :
    Out P G B w0 E H w (execOp a.eval o) v H' := by
  obtain ⟨x', y', h1, h2, rfl, rfl⟩ := with2_eq hc
  have v1 := opd_VR he h1
  have v2 := opd_VR he h2
  simp only [List.map_cons, List.map_nil, osem] at hs
  cases e1 : env.ev x' <;> rw [e1] at hs v1 <;> simp only [wsem, reduceCtorEq] at hs
  rename_i p
  cases p with
  | none => simp at hs
  | some p =>
    obtain ⟨b, off⟩ := p
    simp only at hs
    split at hs
    · rename_i hl
      cases hst : H.st b off (env.ev y').cells with
      | none => simp [hst] at hs
      | some H1 =>
        simp [hst] at hs
        obtain ⟨rfl, rfl⟩ := hs
        obtain ⟨f, cs, q1, q2, q3, q4, q5⟩ := st_row hst
        have hvc := VR.cells v2 q4
        obtain ⟨r1, r2, r3, r4, r5, r6⟩ := h.st hst hvc
        have hul := hvc.length
        have hst2 := run_storeCells_cells (P := P) (E b).g ((E b).o + off) (a.eval y).cells.toList 0 w (by simpa using r4) (by simpa using r5) r6
        refine ⟨Go.undef, _, E, .inr ⟨?_, rfl⟩, trivial, by rw [r2]; exact Nat.le_refl _, Ext.refl _ _, r3⟩
        have hsz : (a.eval y).cells.size = m := by rw [← Array.length_toList]; omega
        simp only [Nat.add_zero] at hst2
        simp [execOp, hop, v1.2, Instr.storeAt, Instr.sureAddr, storeVar, run_sizeOf hm, hsz, hst2]
    · cases hs

/-! ### Rows of many -/
theorem ofFlat_cells {n : Nat} {E : Nat → Ent} {zv : Value} {z : AV} (h : ofFlat zv = some z) : VRs G n E z.cells zv.cells.toList := by
  have hv : VR G n E z zv := ofFlat_VR h
  have hc : z.cell = true := by
    unfold ofFlat at h
    split at h <;> first | (simp at h; subst h; rfl) | cases h
  have e : z.cells = [z] := by cases z <;> first | rfl | simp [AV.cell] at hc
  rw [e, (hv.oneCell hc).2]
  exact VRs.single hv
theorem ofValue_cells {n : Nat} {E : Nat → Ent} {zv : Value} {z : AV} (h : ofValue zv = some z) : VRs G n E z.cells zv.cells.toList := by
  cases zv with
  | agg cs =>
    simp only [ofValue] at h
    cases h2 : mapO ofFlat cs.toList with
    | none => simp [h2] at h
    | some l => simp [h2] at h; subst h; exact mapO_VRs h2
  | _ => exact ofFlat_cells h

theorem flat_get {α : Type} (l : List α) (hl : 0 < l.length) : ∀ (c i : Nat), (List.replicate c l).flatten[i]? = if i < c * l.length then l[i % l.length]? else none
  | 0, i => by simp
  | c + 1, i => by
    rw [List.replicate_succ, List.flatten_cons]
    by_cases h : i < l.length
    · rw [List.getElem?_append_left h, if_pos (by rw [Nat.add_mul]; omega), Nat.mod_eq_of_lt h]
    · rw [List.getElem?_append_right (by omega), flat_get l hl c]
      have e : (i - l.length) % l.length = i % l.length := by
        conv => rhs; rw [show i = (i - l.length) + l.length by omega, Nat.add_mod_right]
      rw [e]
      by_cases h2 : i < (c + 1) * l.length
      · rw [if_pos h2, if_pos (by rw [Nat.add_mul] at h2; omega)]
      · rw [if_neg h2, if_neg (by rw [Nat.add_mul] at h2; omega)]

theorem flat_length {α : Type} (l : List α) (c : Nat) : (List.replicate c l).flatten.length = c * l.length := by
  simp

/-- The model's row of zeros. -/
theorem zeros_VRs {n : Nat} {E : Nat → Ent} {zs : List AV} {us : Array Value} (hv : VRs G n E zs us.toList) (hz : 0 < zs.length) (c : Nat) : VRs G n E (List.replicate c zs).flatten (((Array.range (c * zs.length)).map fun i => us[i % us.size]!).toList) := by
  have hul : us.size = zs.length := by have := hv.length; simpa using this
  refine VRs.of_get (by simp) (fun i v hi => ?_)
  rw [flat_get zs hz] at hi
  split at hi
  · rename_i hlt
    obtain ⟨u, h1, h2⟩ := hv.get _ _ hi
    refine ⟨u, ?_, h2⟩
    rw [Array.getElem?_toList] at h1 ⊢
    rw [Array.getElem?_map, Array.getElem?_range, if_pos hlt, Option.map_some, hul]
    rw [getElem!_def, h1]
  · cases hi

theorem s_mks (t : TypeId) (x y : Operand) (hop : o.op = .makeSlice t x y) {el : TypeId} (ht : P.underlying t = some (.slice el)) {by_ m : Nat} {z : AV} (hb : bytesT P el = some by_) (hz : zeroOf P el = some z) (hm : sizeT P el = some m) (hmz : m = z.cells.length)
    (hc : with2 G (.w (.mks by_ z.cells)) x y = some (opc, args)) (he : EnvR G H.next E env a) (h : HRel G B w0 E H w) (hs : osem C opc (args.map env.ev) H = some (v, H')) :
    Out P G B w0 E H w (execOp a.eval o) v H' := by
  obtain ⟨x', y', h1, h2, rfl, rfl⟩ := with2_eq hc
  have v1 := opd_VR he h1
  have v2 := opd_VR he h2
  simp only [List.map_cons, List.map_nil, osem] at hs
  cases e1 : env.ev x' <;> rw [e1] at hs v1 <;> simp only [wsem, reduceCtorEq] at hs
  cases e2 : env.ev y' <;> rw [e2] at hs v2 <;> simp only [reduceCtorEq] at hs
  rename_i k1 l k2 c
  split at hs
  · rename_i q
    simp only [Option.some.injEq, Prod.mk.injEq] at hs
    obtain ⟨rfl, rfl⟩ := hs
    obtain ⟨q1, q2, q3, q4, q5, q6⟩ := q
    obtain ⟨i, zv, i1, i2, i3⟩ := zero_info hz
    obtain ⟨i', j1, j2⟩ := bytes_info hb
    rw [i1] at j1
    simp at j1
    subst j1
    have hzv : VR G H.next E z zv := ofValue_VR i3
    have hzc := VR.cells hzv q5
    have hl : IntKind.i64.wrap l = l := by unfold IntKind.wrap; simp [IntKind.bits, IntKind.signed]; omega
    have hcw : IntKind.i64.wrap c = c := by unfold IntKind.wrap; simp [IntKind.bits, IntKind.signed]; omega
    have hzl : zv.cells.size = z.cells.length := by have := hzc.length; simpa using this
    have hrow := zeros_VRs hzc (by omega) c.toNat
    have hb2 : ¬ ((i.bytes : Int) * c > 2 ^ 48) := by rw [Int.mul_comm, j2]; omega
    have hb3 : ¬ ((i.bytes : Int) * l > 2 ^ 48) := by
      have : (i.bytes : Int) * l ≤ (i.bytes : Int) * c := Int.mul_le_mul_of_nonneg_left q2 (by omega)
      omega
    have hrowEq : ((Array.range (c.toNat * m)).map (fun j => (if c.toNat * m = 0 then (#[] : Array Value) else zv.cells)[j % (if c.toNat * m = 0 then (#[] : Array Value) else zv.cells).size]!)) = (Array.range (c.toNat * z.cells.length)).map (fun j => zv.cells[j % zv.cells.size]!) := by
      rw [hmz]
      by_cases h0 : c.toNat * z.cells.length = 0
      · rw [h0]; simp
      · rw [if_neg h0]
    refine Out.row h (rest := []) (Cn := c.toNat * z.cells.length) hrow (by simp) (by simp) (.inr rfl) (e := el) (fr := (0, 0)) (u := .slice (some ⟨w.heap.size, 0, none⟩) l.toNat c.toNat) ?_ ?_
    · have hrun : (Instr.makeSlice t (.int k1 l) (.int k2 c)).run P w = .ok (.slice (some ⟨w.heap.size, 0, none⟩) l.toNat c.toNat) (w.alloc (.cells ((Array.range (c.toNat * z.cells.length)).map (fun j => zv.cells[j % zv.cells.size]!)) el)) := by
        have hsz : (sizeOf el).run P w = .ok m w := run_sizeOf hm
        unfold Instr.makeSlice
        simp only [Sem.run_bind, run_underlying ht, Result.andThen_ok, asInt, asIntOf, Sem.run_pure, typeInfo, run_program, i1, hl, hcw]
        rw [if_neg (by simp only [Bool.or_eq_true, decide_eq_true_eq, not_or]; exact ⟨⟨⟨by omega, hb2⟩, by omega⟩, by omega⟩)]
        simp only [Sem.run_bind, run_askRoom, Result.andThen_ok, hsz]
        rw [← hrowEq]
        by_cases h0 : c.toNat * m = 0
        · simp [h0, newRow]
        · simp [h0, newRow, zeroValue, typeInfo, i1, i2]
      simp only [execOp, hop, show a.eval x = _ from v1, show a.eval y = _ from v2, Sem.run_bind, hrun, Result.andThen_ok, Sem.run_pure]
      rw [List.append_nil, Array.toArray_toList]
    · refine ⟨by omega, _, _, rfl, by omega, fun k hk => by simp at hk; exact hk, fun hp => ?_⟩
      rw [upd_same]
      exact ⟨rfl, by simp⟩
  · cases hs

theorem s_bsl (t : TypeId) (len : Nat) (parts : Array (Nat × Operand)) (hop : o.op = .buildSlice t len parts) {el : TypeId} (ht : P.underlying t = some (.slice el)) {m : Nat} {z : AV} (hm : sizeT P el = some m) (hz : zeroOf P el = some z) (hmz : m = z.cells.length) (hm0 : m ≠ 0) (hlen : len * m ≤ 2 ^ 24)
    (hc : withs G (.w (.bsl m len (List.replicate len z.cells).flatten (parts.toList.map fun p => (p.1 * m, m)))) (parts.toList.map (·.2)) = some (opc, args)) (he : EnvR G H.next E env a) (h : HRel G B w0 E H w) (hs : osem C opc (args.map env.ev) H = some (v, H')) :
    Out P G B w0 E H w (execOp a.eval o) v H' := by
  obtain ⟨h1, rfl⟩ := withs_eq hc
  have hv := opds_VRs he h1
  simp only [osem, wsem] at hs
  cases hf : Am.fill (List.replicate len z.cells).flatten (parts.toList.map fun p => (p.1 * m, m)) (args.map env.ev) with
  | none => simp [hf] at hs
  | some cs =>
    simp only [hf] at hs
    split at hs
    · rename_i q
      simp only [Option.some.injEq, Prod.mk.injEq] at hs
      obtain ⟨rfl, rfl⟩ := hs
      obtain ⟨i, zv, i1, i2, i3⟩ := zero_info hz
      have hzv : VR G H.next E z zv := ofValue_VR i3
      -- the template in the model
      obtain ⟨us0, hus0, hz0⟩ : ∃ us0 : Array Value, (∀ w' : World, ((if len * m = 0 then pure #[] else do pure (← zeroValue el).cells : Sem (Array Value))).run P w' = .ok us0 w') ∧
          VRs G H.next E (List.replicate len z.cells).flatten (((Array.range (len * m)).map fun i => us0[i % us0.size]!).toList) := by
        by_cases h0 : len * m = 0
        · refine ⟨#[], fun w' => by simp [h0], ?_⟩
          have : len = 0 := by rcases Nat.mul_eq_zero.1 h0 with h | h; exact h; exact absurd h hm0
          subst this
          simp [VRs]
        · refine ⟨zv.cells, fun w' => by simp [h0, zeroValue, typeInfo, i1, i2], ?_⟩
          have hzc : VRs G H.next E z.cells zv.cells.toList := ofValue_cells i3
          rw [hmz]
          exact zeros_VRs hzc (by omega) len
      have hmO : mapO (fun (p : Nat × Value) => some (p.1 * m, m)) (parts.toList.map fun p => (p.1, a.eval p.2)) = some (parts.toList.map fun p => (p.1 * m, m)) := by
        generalize parts.toList = l
        induction l with
        | nil => rfl
        | cons p l ih => unfold mapO; simp [ih]
      have hv2 : VRs G H.next E (args.map env.ev) ((parts.toList.map fun p => (p.1, a.eval p.2)).map (·.2)) := by simpa [List.map_map, Function.comp_def] using hv
      obtain ⟨us', f1, f2⟩ := fill_VRs (place := fun i => some (i * m, m)) _ _ _ _ _ _ hf hz0 hmO hv2
      have hul := f2.length
      refine Out.row h (rest := []) (Cn := us'.toList.length) f2 (Nat.le_refl _) (by simp) (.inr rfl) (e := el) (fr := (0, 0)) (u := .slice (some ⟨w.heap.size, 0, none⟩) len len) ?_ ?_
      · have hps : (parts.map fun p => (p.1, a.eval p.2)).toList = parts.toList.map fun p => (p.1, a.eval p.2) := by simp
        have hrun : (Instr.buildSlice t len (parts.map fun p => (p.1, a.eval p.2))).run P w = .ok (.slice (some ⟨w.heap.size, 0, none⟩) len len) (w.alloc (.cells us' el)) := by
          have hsz : (sizeOf el).run P w = .ok m w := run_sizeOf hm
          unfold Instr.buildSlice
          simp only [Sem.run_bind, run_underlying ht, Result.andThen_ok, hsz]
          rw [if_neg (by omega)]
          have hu0 := hus0 w
          by_cases h0 : len * m = 0
          · simp only [h0, if_true, Sem.run_pure, Result.ok.injEq] at hu0
            obtain ⟨rfl, _⟩ := hu0
            rw [h0] at f1
            simp only [h0, if_true, Sem.run_bind, Sem.run_pure, Result.andThen_ok, hps, f1]
            simp [newRow]
          · simp only [h0, if_false, Sem.run_bind] at hu0 ⊢
            simp only [zeroValue, typeInfo, i1, i2, Sem.run_bind, run_program, Result.andThen_ok, Sem.run_pure, Result.ok.injEq] at hu0 ⊢
            obtain ⟨rfl, _⟩ := hu0
            simp only [hps, f1]
            simp [newRow]
        simp only [execOp, hop, Sem.run_bind, hrun, Result.andThen_ok, Sem.run_pure]
        rw [List.append_nil, Array.toArray_toList]
      · refine ⟨by omega, _, _, rfl, Nat.le_refl _, fun k hk => by simpa using hk, fun hp => ?_⟩
        rw [upd_same]
        exact ⟨rfl, by show 0 + len * m ≤ us'.toList.length; omega⟩
    · cases hs

end
end Go.Am
