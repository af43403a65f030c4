/- Operations on maps. -/
import Derived.Test.YtjmiblcdjkcgoaaAmSimW2
set_option linter.unusedVariables false
set_option linter.unusedSimpArgs false
namespace Go.Am
open Go.RowKit
variable {G : Nat → Nat} {P : Program}
section
variable {B : Nat} {w0 w : World} {E : Nat → Ent} {H : AHeap}
variable {C : CallF} {o : Oper} {opc : AOpc} {args : List AOpd} {env : Env} {a : Act} {v : AV} {H' : AHeap}

/-- The type of a key's kind. -/
def DescK : CK → TypeDesc → Prop
  | .int, d => ∃ k, d = .int k
  | .bool, d => d = .bool
  | .str, d => d = .string

theorem ckT_desc {t : TypeId} {ck : CK} (h : ckT P t = some ck) : ∃ d, P.underlying t = some d ∧ DescK ck d := by
  unfold ckT at h
  cases hd : P.underlying t with
  | none => simp [hd] at h
  | some d => cases d <;> simp [hd] at h <;> subst h <;> first | exact ⟨_, rfl, _, rfl⟩ | exact ⟨_, rfl, rfl⟩

theorem keyEq_now {n : Nat} {E : Nat → Ent} {ck : CK} {d : TypeDesc} (hd : DescK ck d) {x y : AV} {b : Bool} (h : keyEq ck x y = some b) {u v : Value} (hu : VR G n E x u) (hv : VR G n E y v) : Instr.sameNow d u v = some b := by
  cases ck <;> cases x <;> cases y <;> simp only [keyEq, reduceCtorEq] at h
  · obtain ⟨k, rfl⟩ := hd
    split at h
    · rename_i hk; subst hk
      rw [show u = _ from hu, show v = _ from hv]
      simp [Instr.sameNow]
      simpa using h
    · cases h
  · rw [show d = _ from hd, show u = _ from hu, show v = _ from hv]
    simpa [Instr.sameNow] using h
  · rw [show d = _ from hd, show u = _ from hu, show v = _ from hv]
    rename_i p q
    simp only [Option.some.injEq] at h
    subst h
    simp only [Instr.sameNow, Option.some.injEq]
    show ((⟨p⟩ : Array UInt8) == ⟨q⟩) = (p == q)
    simp

theorem findK_now {n : Nat} {E : Nat → Ent} {ck : CK} {d : TypeDesc} (hd : DescK ck d) {k : AV} {u : Value} (hu : VR G n E k u) : ∀ {as : List (AV × AV)} {es : List MapEntry} {i : Nat} {r : Option (Nat × AV)}, EntsR G n E as es → findK ck k as i = some r →
    (r = none ∧ Instr.findNow d u es i = some none) ∨ ∃ j x z, r = some (i + j, x) ∧ as[j]? = some (z, x) ∧ keyEq ck k z = some true ∧ ∃ e, es[j]? = some e ∧ Instr.findNow d u es i = some (some (i + j, e.val)) ∧ VR G n E z e.key ∧ VR G n E x e.val
  | [], es, i, r, he, h => by
    rw [show es = [] from he]
    simp [findK] at h
    subst h
    exact .inl ⟨rfl, rfl⟩
  | (z, x) :: as, es, i, r, he, h => by
    obtain ⟨e, es', rfl, h1, h2, h3⟩ := he
    unfold findK at h
    cases hk : keyEq ck k z with
    | none => simp [hk] at h
    | some b =>
      have hn := keyEq_now hd hk hu h1
      cases b with
      | true =>
        simp [hk] at h
        subst h
        exact .inr ⟨0, x, z, rfl, rfl, hk, e, rfl, by simp [Instr.findNow, hn], h1, h2⟩
      | false =>
        simp [hk] at h
        rcases findK_now hd hu h3 h with ⟨r1, r2⟩ | ⟨j, x', z', r1, r2, r3, e', r4, r5, r6, r7⟩
        · exact .inl ⟨r1, by simp [Instr.findNow, hn, r2]⟩
        · exact .inr ⟨j + 1, x', z', by rw [r1]; congr 2; omega, by simpa using r2, r3, e', by simpa using r4, by simp only [Instr.findNow, hn, r5]; congr 3; omega, r6, r7⟩

theorem EntsR.length {n : Nat} {E : Nat → Ent} : ∀ {as : List (AV × AV)} {es : List MapEntry}, EntsR G n E as es → es.length = as.length
  | [], es, h => by rw [show es = [] from h]; rfl
  | (k, v) :: r, es, ⟨e, es', h1, _, _, h4⟩ => by rw [h1]; simp [EntsR.length h4]
theorem EntsR.snoc {n : Nat} {E : Nat → Ent} {k v : AV} {e : MapEntry} (hk : VR G n E k e.key) (hv : VR G n E v e.val) : ∀ {as : List (AV × AV)} {es : List MapEntry}, EntsR G n E as es → EntsR G n E (as ++ [(k, v)]) (es ++ [e])
  | [], es, h => by rw [show es = [] from h]; exact ⟨e, [], rfl, hk, hv, rfl⟩
  | (k', v') :: r, es, ⟨e', es', h1, h2, h3, h4⟩ => ⟨e', es' ++ [e], by rw [h1]; rfl, h2, h3, EntsR.snoc hk hv h4⟩
theorem EntsR.set {n : Nat} {E : Nat → Ent} {k v : AV} {e : MapEntry} (hk : VR G n E k e.key) (hv : VR G n E v e.val) : ∀ {as : List (AV × AV)} {es : List MapEntry}, EntsR G n E as es → ∀ i, EntsR G n E (as.set i (k, v)) (es.set i e)
  | [], es, h, i => by rw [show es = [] from h]; simp [EntsR]
  | (k', v') :: r, es, ⟨e', es', h1, h2, h3, h4⟩, 0 => ⟨e, es', by rw [h1]; rfl, hk, hv, h4⟩
  | (k', v') :: r, es, ⟨e', es', h1, h2, h3, h4⟩, i + 1 => ⟨e', es'.set i e, by rw [h1]; rfl, h2, h3, EntsR.set hk hv h4 i⟩
theorem EntsR.eraseIdx {n : Nat} {E : Nat → Ent} : ∀ {as : List (AV × AV)} {es : List MapEntry}, EntsR G n E as es → ∀ i, EntsR G n E (as.eraseIdx i) (es.eraseIdx i)
  | [], es, h, i => by rw [show es = [] from h]; simp [EntsR]
  | (k', v') :: r, es, ⟨e', es', h1, h2, h3, h4⟩, 0 => by rw [h1]; exact h4
  | (k', v') :: r, es, ⟨e', es', h1, h2, h3, h4⟩, i + 1 => ⟨e', es'.eraseIdx i, by rw [h1]; rfl, h2, h3, EntsR.eraseIdx h4 i⟩

theorem run_checkKey' {ck : CK} {t : TypeId} {d : TypeDesc} (ht : P.underlying t = some d) (hd : DescK ck d) (empty : Bool) (u : Value) (n : Nat) : (Instr.checkKey empty (n + 1) t u).run P w = .ok () w := by
  cases ck with
  | int => obtain ⟨k, rfl⟩ := hd; simp [Instr.checkKey, run_underlying ht]
  | bool => rw [show d = _ from hd] at ht; simp [Instr.checkKey, run_underlying ht]
  | str => rw [show d = _ from hd] at ht; simp [Instr.checkKey, run_underlying ht]
theorem run_checkKey {ck : CK} {t : TypeId} {d : TypeDesc} (ht : P.underlying t = some d) (hd : DescK ck d) (empty : Bool) (u : Value) : (Instr.checkKey empty 10000 t u).run P w = .ok () w :=
  run_checkKey' ht hd empty u 9999

/-- What a map's entries are in the model. -/
theorem HRel.ents (h : HRel G B w0 E H w) {m : Option Nat} {u : Value} (hu : VR G H.next E (.map m) u) {es : List (AV × AV)} (he : H.ents m = some es) :
    (m = none ∧ u = .map none ∧ es = []) ∨ ∃ b g es' clock, m = some b ∧ g = (E b).g ∧ u = .map (some g) ∧ w.heap[g]? = some (.map es' clock) ∧ EntsR G H.next E es es'.toList := by
  cases m with
  | none => simp [AHeap.ents] at he; exact .inl ⟨rfl, hu, he⟩
  | some b =>
    simp only [AHeap.ents] at he
    cases hb : H.blk b with
    | none => simp [hb] at he
    | some ob =>
      cases ob with
      | row f cs => simp [hb] at he
      | map own es0 =>
        simp [hb] at he
        subst he
        obtain ⟨k1, k2, k3, es', clock, k4, k5⟩ := h.map b own es0 hb
        exact .inr ⟨b, _, es', clock, rfl, rfl, hu.2, k4, k5⟩

theorem run_getObj_map {g : Nat} {es : Array MapEntry} {c : Nat} (h : w.heap[g]? = some (.map es c)) : (getObj g).run P w = .ok (.map es c) w := by
  simp only [getObj, Sem.run, h]

theorem s_lenM (c : Call) (hop : o.op = .call c) (hcal : c.callee = .builtin .len) {t : TypeId} {ts : List TypeId} {x : Operand} {xs : List Operand} (ht : c.argTypes.toList = t :: ts) (hx : c.args.toList = x :: xs)
    {k e : TypeId} (hd : P.underlying t = some (.map k e)) (hc : with1 G (.r .lenM) x = some (opc, args)) (he : EnvR G H.next E env a) (h : HRel G B w0 E H w) (hs : osem C opc (args.map env.ev) H = some (v, H')) :
    Out P G B w0 E H w (execOp a.eval o) v H' := by
  obtain ⟨x', h1, rfl, rfl⟩ := with1_eq hc
  obtain ⟨h2, rfl⟩ := osem_r hs
  have hv := opd_VR he h1
  simp only [List.map_cons, List.map_nil] at h2
  cases e1 : env.ev x' <;> rw [e1] at h2 hv <;> simp only [rsem, reduceCtorEq] at h2
  rename_i m
  cases hen : H'.ents m with
  | none => simp [hen] at h2
  | some es =>
    simp [hen] at h2
    subst h2
    refine Out.pure h (u := .int .i64 es.length) ?_ rfl
    rw [exec_builtin hop hcal]
    rcases h.ents hv hen with ⟨rfl, q, rfl⟩ | ⟨b, g, es', clock, rfl, _, q, q2, q3⟩
    · simp [builtin, Builtin.len_, get0 ht, map_get0 hx, run_underlying hd, q, goInt]
    · have hl := q3.length
      rw [Array.length_toList] at hl
      simp [builtin, Builtin.len_, get0 ht, map_get0 hx, run_underlying hd, q, goInt, run_getObj_map q2, hl]

theorem s_look (t : TypeId) (x i : Operand) (ok : Bool) (hop : o.op = .lookup t x i ok) {kt e : TypeId} (ht : P.underlying t = some (.map kt e)) {z : AV} (hz : zeroOf P e = some z) {ck : CK} (hck : ckT P kt = some ck)
    (hc : with2 G (.r (.look ck z ok)) x i = some (opc, args)) (he : EnvR G H.next E env a) (h : HRel G B w0 E H w) (hs : osem C opc (args.map env.ev) H = some (v, H')) :
    Out P G B w0 E H w (execOp a.eval o) v H' := by
  obtain ⟨x', y', h1, h2, rfl, rfl⟩ := with2_eq hc
  obtain ⟨h3, rfl⟩ := osem_r hs
  have v1 := opd_VR he h1
  have v2 := opd_VR he h2
  simp only [List.map_cons, List.map_nil] at h3
  cases e1 : env.ev x' <;> rw [e1] at h3 v1 <;> simp only [rsem, reduceCtorEq] at h3
  rename_i m
  obtain ⟨iz, zv, i1, i2, i3⟩ := zero_info hz
  have hzv : VR G H'.next E z zv := ofValue_VR i3
  obtain ⟨d, hd, hdk⟩ := ckT_desc hck
  cases hen : H'.ents m with
  | none => simp [hen] at h3
  | some es =>
    simp only [hen] at h3
    split at h3
    · cases hf : findK ck (env.ev y') es 0 with
      | none => simp [hf] at h3
      | some r =>
        have fin : ∀ (es' : Array MapEntry), EntsR G H'.next E es es'.toList → ((a.eval x = .map none ∧ es' = #[]) ∨ ∃ g c, a.eval x = .map (some g) ∧ w.heap[g]? = some (.map es' c)) → Out P G B w0 E H' w (execOp a.eval o) v H' := by
          intro es' hes hor
          rcases findK_now hdk v2 hes hf with ⟨rfl, q⟩ | ⟨j, xx, zz, rfl, q1, q2, ee, q3, q4, q5, q6⟩
          · simp only [hf, Option.some.injEq] at h3
            have hfk : (Instr.findKey kt (a.eval i) es'.toList).run P w = .ok none w := by simp [Instr.findKey, run_underlying hd, q]
            have hz0 : (zeroValue e).run P w = .ok zv w := by simp [zeroValue, typeInfo, i1, i2]
            have hr : (Instr.lookup t (a.eval x) (a.eval i) ok).run P w = .ok (if ok then .tuple #[zv, .bool false] else zv) w := by
              rcases hor with ⟨r1, rfl⟩ | ⟨g, cl, r1, r2⟩
              · simp [Instr.lookup, run_underlying ht, r1, run_checkKey hd hdk, hfk, hz0]
                try (cases ok <;> rfl)
              · simp [Instr.lookup, run_underlying ht, r1, run_getObj_map r2, run_checkKey hd hdk, hfk, hz0]
                try (cases ok <;> rfl)
            cases ok
            · simp at h3; subst h3
              exact Out.pure h (u := zv) (by simp [execOp, hop, hr]) hzv
            · simp at h3; subst h3
              exact Out.pure h (u := .tuple #[zv, .bool false]) (by simp [execOp, hop, hr]) ⟨_, rfl, ⟨_, _, rfl, hzv, _, _, rfl, rfl, rfl⟩⟩
          · simp only [hf, Option.some.injEq] at h3
            have hfk : (Instr.findKey kt (a.eval i) es'.toList).run P w = .ok (some (0 + j, ee.val)) w := by simp [Instr.findKey, run_underlying hd, q4]
            have hr : (Instr.lookup t (a.eval x) (a.eval i) ok).run P w = .ok (if ok then .tuple #[ee.val, .bool true] else ee.val) w := by
              rcases hor with ⟨r1, rfl⟩ | ⟨g, cl, r1, r2⟩
              · simp [Instr.lookup, run_underlying ht, r1, run_checkKey hd hdk, hfk]
                try (cases ok <;> rfl)
              · simp [Instr.lookup, run_underlying ht, r1, run_getObj_map r2, run_checkKey hd hdk, hfk]
                try (cases ok <;> rfl)
            cases ok
            · simp at h3; subst h3
              exact Out.pure h (u := ee.val) (by simp [execOp, hop, hr]) q6
            · simp at h3; subst h3
              exact Out.pure h (u := .tuple #[ee.val, .bool true]) (by simp [execOp, hop, hr]) ⟨_, rfl, ⟨_, _, rfl, q6, _, _, rfl, rfl, rfl⟩⟩
        rcases h.ents v1 hen with ⟨rfl, q, rfl⟩ | ⟨b, g, es', clock, rfl, _, q, q2, q3⟩
        · exact fin #[] rfl (.inl ⟨q, rfl⟩)
        · exact fin es' q3 (.inr ⟨g, clock, q, q2⟩)
    · cases h3

/-! ### A new map -/
theorem HRel.newMap (h : HRel G B w0 E H w) : HRel G B w0 (upd E H.next ⟨w.heap.size, 0, 0⟩) { H with next := H.next + 1, blk := upd H.blk H.next (some (.map true [])) } (w.alloc (.map #[] 0)) := by
  have hE := ext_upd H.next E ⟨w.heap.size, 0, 0⟩
  have hs : (w.alloc (.map #[] 0)).heap.size = w.heap.size + 1 := by show (w.heap.push _).size = _; simp
  have hrow : ∀ c f cs, AHeap.row { H with next := H.next + 1, blk := upd H.blk H.next (some (.map true [])) } c = some (f, cs) → H.row c = some (f, cs) ∧ c < H.next := by
    intro c f cs hc
    have hb := row_blk hc
    have hb' : upd H.blk H.next (some (.map true [])) c = some (.row f cs) := hb
    have e : c ≠ H.next := by intro e; subst e; rw [upd_same] at hb'; cases hb'
    have hb2 := hb'
    rw [upd_ne _ _ _ e] at hb2
    refine ⟨?_, h.blk_lt hb2⟩
    simp only [AHeap.row, hb'] at hc
    simp only [AHeap.row, hb2]
    exact hc
  have hgE : ∀ c, c < H.next → upd E H.next ⟨w.heap.size, 0, 0⟩ c = E c := fun c hc => upd_ne _ _ _ (by omega)
  refine ⟨h.below.alloc h.size _, by rw [hs]; have := h.size; omega, ?_, ?_, ?_, ?_, ?_, ?_, ?_⟩
  · intro c f cs hc
    obtain ⟨h1, h2⟩ := hrow c f cs hc
    have hg := h.glt c h2
    exact (h.row c f cs h1).move (by show H.next ≤ H.next + 1; omega) hE (fun i _ => cell_alloc_lt hg) (fun i hi => by rw [cell_alloc_lt hg]; exact hi) (fun i _ => frozen_alloc_lt hg)
  · intro c hc
    have hc' : c < H.next + 1 := hc
    by_cases e : c = H.next
    · subst e; rw [upd_same, hs]; show w.heap.size < w.heap.size + 1; omega
    · rw [hgE c (by omega), hs]; have := h.glt c (by omega); omega
  · intro c f cs d f' cs' hc hd o1 o2 hne
    obtain ⟨h1, h2⟩ := hrow c f cs hc
    obtain ⟨h3, h4⟩ := hrow d f' cs' hd
    rw [hgE c h2, hgE d h4]
    exact h.sep _ _ _ _ _ _ h1 h3 o1 o2 hne
  · intro c hc
    have hc' : H.next + 1 ≤ c := hc
    show upd H.blk H.next _ c = none
    rw [upd_ne _ _ _ (by omega)]; exact h.fresh c (by omega)
  · intro c f cs hc
    have hc' : upd H.blk H.next (some (.map true [])) c = some (.row f cs) := hc
    have e : c ≠ H.next := by intro e; subst e; rw [upd_same] at hc'; cases hc'
    rw [upd_ne _ _ _ e] at hc'
    have := h.famlt _ _ _ hc'
    show f < H.next + 1; omega
  · intro m own es hm
    have hm' : upd H.blk H.next (some (.map true [])) m = some (.map own es) := hm
    by_cases e : m = H.next
    · subst e
      rw [upd_same] at hm'
      simp at hm'
      obtain ⟨rfl, rfl⟩ := hm'
      rw [upd_same]
      exact ⟨by show H.next < H.next + 1; omega, (fun _ => h.size), (fun q => by cases q), #[], 0, heap_alloc_at w _, rfl⟩
    · rw [upd_ne _ _ _ e] at hm'
      obtain ⟨k1, k2, k3, es', clock, k4, k5⟩ := h.map m own es hm'
      rw [hgE m k1]
      refine ⟨by show m < H.next + 1; omega, k2, k3, es', clock, ?_, k5.mono (by show H.next ≤ H.next + 1; omega) hE⟩
      rw [Below.heap_alloc _ _ _ (h.glt m k1)]; exact k4
  · intro m es m' es' hm hm' hne
    have q1 : upd H.blk H.next (some (.map true [])) m = some (.map true es) := hm
    have q2 : upd H.blk H.next (some (.map true [])) m' = some (.map true es') := hm'
    by_cases e : m = H.next
    · subst e
      by_cases e' : m' = H.next
      · exact absurd e'.symm hne
      · rw [upd_ne _ _ _ e'] at q2
        have := h.glt m' (h.blk_lt q2)
        rw [upd_same, hgE m' (h.blk_lt q2)]
        show w.heap.size ≠ _
        omega
    · rw [upd_ne _ _ _ e] at q1
      by_cases e' : m' = H.next
      · subst e'
        have := h.glt m (h.blk_lt q1)
        rw [upd_same, hgE m (h.blk_lt q1)]
        show _ ≠ w.heap.size
        omega
      · rw [upd_ne _ _ _ e'] at q2
        rw [hgE m (h.blk_lt q1), hgE m' (h.blk_lt q2)]
        exact h.sepm _ _ _ _ q1 q2 hne

theorem s_mkM (t : TypeId) (hop : o.op = .makeMap t none) (hc : some (AOpc.w .mkM, ([] : List AOpd)) = some (opc, args)) (h : HRel G B w0 E H w) (hs : osem C opc (args.map env.ev) H = some (v, H')) :
    Out P G B w0 E H w (execOp a.eval o) v H' := by
  simp at hc
  obtain ⟨rfl, rfl⟩ := hc
  simp only [List.map_nil, osem, wsem, Option.some.injEq, Prod.mk.injEq] at hs
  obtain ⟨rfl, rfl⟩ := hs
  refine ⟨.map (some w.heap.size), _, _, .inl ?_, ⟨by show H.next < H.next + 1; omega, by rw [upd_same]⟩, by show H.next ≤ H.next + 1; omega, ext_upd _ _ _, h.newMap⟩
  simp [execOp, hop, Instr.makeMap]

/-! ### A map written -/
def setW (w : World) (g : Nat) (ob : Obj) : World := { w with heap := w.heap.setIfInBounds g ob }
theorem setW_get (w : World) (g : Nat) (ob : Obj) (k : Nat) : (setW w g ob).heap[k]? = if k = g ∧ g < w.heap.size then some ob else w.heap[k]? := by
  show (w.heap.setIfInBounds g ob)[k]? = _
  rw [Array.getElem?_setIfInBounds]
  by_cases h : g = k
  · subst h
    by_cases h2 : g < w.heap.size
    · simp [h2]
    · rw [if_pos rfl, if_neg h2, if_neg (by omega), Array.getElem?_eq_none (by omega)]
  · rw [if_neg h, if_neg (by omega)]

theorem HRel.setMap (h : HRel G B w0 E H w) {m : Nat} {es es2 : List (AV × AV)} (hm : H.blk m = some (.map true es)) {es' : Array MapEntry} {c c' : Nat} {es2' : Array MapEntry}
    (hw : w.heap[(E m).g]? = some (.map es' c)) (he : EntsR G H.next E es2 es2'.toList) : HRel G B w0 E (H.setMap m es2) (setW w (E m).g (.map es2' c')) := by
  obtain ⟨k1, k2, k3, es0, clock, k4, k5⟩ := h.map m true es hm
  have hB := k2 rfl
  have hlt : (E m).g < w.heap.size := h.glt m k1
  have hcell : ∀ x, (setW w (E m).g (.map es2' c')).cell? x = w.cell? x := by
    intro x
    simp only [World.cell?, setW_get]
    by_cases e : x.block = (E m).g
    · rw [if_pos ⟨e, hlt⟩, e, hw]
    · rw [if_neg (by omega)]
  have hfro : ∀ x, (setW w (E m).g (.map es2' c')).frozen? x = w.frozen? x := by
    intro x
    simp only [World.frozen?, setW_get]
    by_cases e : x.block = (E m).g
    · rw [if_pos ⟨e, hlt⟩, e, hw]
    · rw [if_neg (by omega)]
  have hss : (setW w (E m).g (.map es2' c')).heap.size = w.heap.size := by show (w.heap.setIfInBounds _ _).size = _; simp
  have hrow : ∀ b f cs, (H.setMap m es2).row b = some (f, cs) → H.row b = some (f, cs) := by
    intro b f cs hc
    have hb := row_blk hc
    have hb' : upd H.blk m (some (.map true es2)) b = some (.row f cs) := hb
    have e : b ≠ m := by intro e; subst e; rw [upd_same] at hb'; cases hb'
    have hb2 := hb'
    rw [upd_ne _ _ _ e] at hb2
    simp only [AHeap.row, hb] at hc
    simp only [AHeap.row, hb2]
    exact hc
  refine ⟨?_, by rw [hss]; exact h.size, ?_, fun b hb => by rw [hss]; exact h.glt b hb, ?_, ?_, ?_, ?_, ?_⟩
  · refine h.below.trans ⟨rfl, rfl, rfl, by rw [hss]; exact Nat.le_refl _, fun k hk => ?_⟩
    rw [setW_get, if_neg (by omega)]
  · intro b f cs hc
    exact (h.row b f cs (hrow b f cs hc)).move (Nat.le_refl _) (Ext.refl _ _) (fun i _ => hcell _) (fun i hi => by rw [hcell]; exact hi) (fun i _ => hfro _)
  · intro b f cs d f' cs' hc hd
    exact h.sep _ _ _ _ _ _ (hrow b f cs hc) (hrow d f' cs' hd)
  · intro b hb
    show upd H.blk m _ b = none
    rw [upd_ne _ _ _ (by have : H.next ≤ b := hb; omega)]; exact h.fresh b hb
  · intro b f cs hc
    have hc' : upd H.blk m (some (.map true es2)) b = some (.row f cs) := hc
    have e : b ≠ m := by intro e; subst e; rw [upd_same] at hc'; cases hc'
    rw [upd_ne _ _ _ e] at hc'
    exact h.famlt _ _ _ hc'
  · intro m1 own es1 h1
    have h1' : upd H.blk m (some (.map true es2)) m1 = some (.map own es1) := h1
    by_cases e : m1 = m
    · subst e
      rw [upd_same] at h1'
      simp at h1'
      obtain ⟨rfl, rfl⟩ := h1'
      exact ⟨k1, k2, k3, es2', c', by rw [setW_get, if_pos ⟨rfl, hlt⟩], he⟩
    · rw [upd_ne _ _ _ e] at h1'
      obtain ⟨q1, q2, q3, es1', c1, q4, q5⟩ := h.map m1 own es1 h1'
      refine ⟨q1, q2, q3, es1', c1, ?_, q5⟩
      have hne : (E m1).g ≠ (E m).g := by
        cases own with
        | true => exact h.sepm _ _ _ _ h1' hm e
        | false => have := q3 rfl; omega
      rw [setW_get, if_neg (by omega)]; exact q4
  · intro m1 es1 m2 es2'' h1 h2 hne
    have h1' : upd H.blk m (some (.map true es2)) m1 = some (.map true es1) := h1
    have h2' : upd H.blk m (some (.map true es2)) m2 = some (.map true es2'') := h2
    have get : ∀ z ez, upd H.blk m (some (.map true es2)) z = some (.map true ez) → ∃ ez', H.blk z = some (.map true ez') := by
      intro z ez hz
      by_cases e : z = m
      · subst e; exact ⟨_, hm⟩
      · rw [upd_ne _ _ _ e] at hz; exact ⟨_, hz⟩
    obtain ⟨e1, g1⟩ := get _ _ h1'
    obtain ⟨e2, g2⟩ := get _ _ h2'
    exact h.sepm _ _ _ _ g1 g2 hne

theorem run_setObj_map {g : Nat} {es : Array MapEntry} {c : Nat} (h : w.heap[g]? = some (.map es c)) (ob : Obj) : (setObj g ob).run P w = .ok () (setW w g ob) := by
  simp only [setObj, Sem.run, h]; rfl

theorem keyEq_bits {n : Nat} {E : Nat → Ent} {ck : CK} {x y : AV} (h : keyEq ck x y = some true) {u v : Value} (hu : VR G n E x u) (hv : VR G n E y v) : Instr.sameBits 10000 v u = true ∧ v = u := by
  cases ck <;> cases x <;> cases y <;> simp only [keyEq, reduceCtorEq] at h
  · split at h
    · rename_i hk; subst hk
      simp at h
      subst h
      rw [show u = _ from hu, show v = _ from hv]
      exact ⟨by simp [Instr.sameBits], rfl⟩
    · cases h
  · simp at h
    subst h
    rw [show u = _ from hu, show v = _ from hv]
    exact ⟨by simp [Instr.sameBits], rfl⟩
  · simp at h
    subst h
    rw [show u = _ from hu, show v = _ from hv]
    refine ⟨?_, rfl⟩
    rename_i p
    show ((⟨⟨p⟩⟩ : ByteArray) == ⟨⟨p⟩⟩) = true
    show ((⟨p⟩ : Array UInt8) == ⟨p⟩) = true
    simp

theorem s_mset (t : TypeId) (m k x : Operand) (hop : o.op = .mapUpdate t m k x ∨ o.op = .insert t m k x) {kt e : TypeId} (ht : P.underlying t = some (.map kt e)) {ck : CK} (hck : ckT P kt = some ck)
    (hc : withs G (.w (.mset ck)) [m, k, x] = some (opc, args)) (he : EnvR G H.next E env a) (h : HRel G B w0 E H w) (hs : osem C opc (args.map env.ev) H = some (v, H')) :
    Out P G B w0 E H w (execOp a.eval o) v H' := by
  obtain ⟨h1, rfl⟩ := withs_eq hc
  have hv := opds_VRs he h1
  obtain ⟨a1, r1, e1, q1, hv⟩ := hv.inv_cons
  obtain ⟨a2, r2, rfl, q2, hv⟩ := hv.inv_cons
  obtain ⟨a3, r3, rfl, q3, hv⟩ := hv.inv_cons
  obtain rfl := hv.inv_nil
  rw [e1] at hs
  simp only [osem] at hs
  cases a1 <;> simp only [wsem, reduceCtorEq] at hs
  rename_i mo
  cases mo with
  | none => simp at hs
  | some b =>
    simp only at hs
    obtain ⟨d, hd, hdk⟩ := ckT_desc hck
    cases hb : H.blk b with
    | none => simp [hb] at hs
    | some ob =>
      cases ob with
      | row f cs => simp [hb] at hs
      | map own es =>
        cases own with
        | false => simp [hb] at hs
        | true =>
          simp only [hb] at hs
          split at hs
          · obtain ⟨k1, k2, k3, es', clock, k4, k5⟩ := h.map b true es hb
            have hex : ∀ w', (Instr.mapUpdate t (a.eval m) (a.eval k) (a.eval x)).run P w = .ok () w' → (execOp a.eval o).run P w = .ok .skip w' := by
              intro w' hr
              rcases hop with hop | hop <;> simp [execOp, hop, hr]
            cases hf : findK ck a2 es 0 with
            | none => simp [hf] at hs
            | some r =>
              rcases findK_now hdk q2 k5 hf with ⟨rfl, g1⟩ | ⟨j, xx, zz, rfl, g1, g2, ee, g3, g4, g5, g6⟩
              · simp only [hf, Option.some.injEq, Prod.mk.injEq] at hs
                obtain ⟨rfl, rfl⟩ := hs
                refine ⟨Go.undef, setW w (E b).g (.map (es'.push { key := a.eval k, val := a.eval x, born := clock }) (clock + 1)), E, .inr ⟨hex _ ?_, rfl⟩, trivial, Nat.le_refl _, Ext.refl _ _, ?_⟩
                · simp [Instr.mapUpdate, run_underlying ht, q1.2, run_getObj_map k4, run_checkKey hd hdk, Instr.findKey, run_underlying hd, g1, run_setObj_map k4]
                · exact h.setMap hb k4 (by simpa using EntsR.snoc q2 q3 k5)
              · simp only [hf, Option.some.injEq, Prod.mk.injEq] at hs
                obtain ⟨rfl, rfl⟩ := hs
                obtain ⟨b1, b2⟩ := keyEq_bits g2 q2 g5
                have g3' : es'[j]? = some ee := by rw [← Array.getElem?_toList]; exact g3
                refine ⟨Go.undef, setW w (E b).g (.map (es'.modify j fun e => { e with key := a.eval k, val := a.eval x }) clock), E, .inr ⟨hex _ ?_, rfl⟩, trivial, Nat.le_refl _, Ext.refl _ _, ?_⟩
                · simp [Instr.mapUpdate, run_underlying ht, q1.2, run_getObj_map k4, run_checkKey hd hdk, Instr.findKey, run_underlying hd, g4, run_setObj_map k4, g3', Instr.keyThatStays, b1]
                · refine h.setMap hb k4 ?_
                  have hmod : (es'.modify j fun e => { e with key := a.eval k, val := a.eval x }).toList = es'.toList.set j { ee with key := a.eval k, val := a.eval x } := by
                    rw [Array.toList_modify]
                    apply List.ext_getElem?
                    intro q
                    rw [List.getElem?_modify, List.getElem?_set]
                    by_cases hq : j = q
                    · subst hq
                      rw [if_pos rfl, if_pos (List.getElem?_eq_some_iff.1 g3).1, g3]; simp
                    · rw [if_neg hq]; simp [hq]
                  rw [hmod, Nat.zero_add]
                  exact EntsR.set (e := { ee with key := a.eval k, val := a.eval x }) q2 q3 k5 j
          · cases hs

theorem s_mdel (c : Call) (hop : o.op = .call c) (hcal : c.callee = .builtin .delete) {t : TypeId} {ts : List TypeId} {x y : Operand} {xs : List Operand} (hts : c.argTypes.toList = t :: ts) (hxs : c.args.toList = x :: y :: xs)
    {kt e : TypeId} (ht : P.underlying t = some (.map kt e)) {ck : CK} (hck : ckT P kt = some ck)
    (hc : with2 G (.w (.mdel ck)) x y = some (opc, args)) (he : EnvR G H.next E env a) (h : HRel G B w0 E H w) (hs : osem C opc (args.map env.ev) H = some (v, H')) :
    Out P G B w0 E H w (execOp a.eval o) v H' := by
  obtain ⟨x', y', h1, h2, rfl, rfl⟩ := with2_eq hc
  have v1 := opd_VR he h1
  have v2 := opd_VR he h2
  simp only [List.map_cons, List.map_nil, osem] at hs
  cases e1 : env.ev x' <;> rw [e1] at hs v1 <;> simp only [wsem, reduceCtorEq] at hs
  rename_i mo
  cases mo with
  | none => simp at hs
  | some b =>
    simp only at hs
    obtain ⟨d, hd, hdk⟩ := ckT_desc hck
    have t0 := get0 hts
    have a1' := map_get1 (a := a) hxs
    have hex : ∀ {val : Value} {w1 : World}, (Builtin.delete_ c.argTypes o.type (c.args.map a.eval)).run P w = .ok val w1 → (execOp a.eval o).run P w = .ok (.value val) w1 := by
      intro val w1 hr
      rw [exec_builtin hop hcal]
      simp [builtin, hr]
    cases hb : H.blk b with
    | none => simp [hb] at hs
    | some ob =>
      cases ob with
      | row f cs => simp [hb] at hs
      | map own es =>
        cases own with
        | false => simp [hb] at hs
        | true =>
          simp only [hb] at hs
          split at hs
          · obtain ⟨k1, k2, k3, es', clock, k4, k5⟩ := h.map b true es hb
            cases hf : findK ck (env.ev y') es 0 with
            | none => simp [hf] at hs
            | some r =>
              rcases findK_now hdk v2 k5 hf with ⟨rfl, g1⟩ | ⟨j, xx, zz, rfl, g1, g2, ee, g3, g4, g5, g6⟩
              · simp only [hf, Option.some.injEq, Prod.mk.injEq] at hs
                obtain ⟨rfl, rfl⟩ := hs
                refine ⟨.tuple #[], setW w (E b).g (.map es' clock), E, .inl (hex ?_), trivial, Nat.le_refl _, Ext.refl _ _, h.setMap hb k4 k5⟩
                simp [Builtin.delete_, t0, map_get0 (a := a) hxs, a1', run_underlying ht, v1.2, run_getObj_map k4, run_checkKey hd hdk, Instr.findKey, run_underlying hd, g1, run_setObj_map k4]
              · simp only [hf, Option.some.injEq, Prod.mk.injEq] at hs
                obtain ⟨rfl, rfl⟩ := hs
                refine ⟨.tuple #[], setW w (E b).g (.map (es'.eraseIdxIfInBounds j) clock), E, .inl (hex ?_), trivial, Nat.le_refl _, Ext.refl _ _, h.setMap hb k4 ?_⟩
                · simp [Builtin.delete_, t0, map_get0 (a := a) hxs, a1', run_underlying ht, v1.2, run_getObj_map k4, run_checkKey hd hdk, Instr.findKey, run_underlying hd, g4, run_setObj_map k4]
                · have hj : j < es'.size := by have := (List.getElem?_eq_some_iff.1 g3).1; simpa using this
                  have : (es'.eraseIdxIfInBounds j).toList = es'.toList.eraseIdx j := by
                    unfold Array.eraseIdxIfInBounds
                    rw [dif_pos hj]; simp
                  rw [this, Nat.zero_add]
                  exact EntsR.eraseIdx k5 j
          · cases hs

end
end Go.Am
