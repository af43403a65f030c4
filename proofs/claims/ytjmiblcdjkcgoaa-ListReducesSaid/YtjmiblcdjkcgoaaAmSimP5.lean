/- Each operation that does not look at the heap, as the translation makes it: the others. -/
import Derived.Test.YtjmiblcdjkcgoaaAmSimP4
set_option linter.unusedVariables false
set_option linter.unusedSimpArgs false
namespace Go.Am
open Go.RowKit
variable {G : Nat → Nat} {P : Program}
section
variable {B : Nat} {w0 w : World} {E : Nat → Ent} {H : AHeap}
variable {C : CallF} {o : Oper} {opc : AOpc} {args : List AOpd} {env : Env} {a : Act} {v : AV} {H' : AHeap}

theorem s_fail (x : Operand) (hc : with1 G (.p .fail) x = some (opc, args)) (hs : osem C opc (args.map env.ev) H = some (v, H')) :
    Out P G B w0 E H w (execOp a.eval o) v H' := by
  obtain ⟨x', h1, rfl, rfl⟩ := with1_eq hc
  obtain ⟨h2, rfl⟩ := osem_p hs
  simp [psem] at h2

theorem s_un (op : UnOp) (t : TypeId) (x : Operand) (hop : o.op = .unOp op t x) (hc : with1 G (.p (.un op)) x = some (opc, args)) (he : EnvR G H.next E env a) (h : HRel G B w0 E H w) (hs : osem C opc (args.map env.ev) H = some (v, H')) :
    Out P G B w0 E H w (execOp a.eval o) v H' := by
  obtain ⟨x', h1, rfl, rfl⟩ := with1_eq hc
  obtain ⟨h2, rfl⟩ := osem_p hs
  have hv := opd_VR he h1
  simp only [List.map_cons, List.map_nil, psem] at h2
  cases e : env.ev x' <;> rw [e] at h2 hv <;> simp only [unOp, reduceCtorEq] at h2
  · rename_i b
    cases op <;> simp at h2
    subst h2
    exact Out.pure h (u := .bool (!b)) (by simp [execOp, hop, show a.eval x = _ from hv, Op.unary]) rfl
  · rename_i k i
    cases op <;> simp at h2 <;> subst h2
    · exact Out.pure h (u := .int k (k.wrap (0 - i))) (by simp [execOp, hop, show a.eval x = _ from hv, Op.unary, Op.intArith]) (by simp [VR])
    · exact Out.pure h (u := _) (by simp [execOp, hop, show a.eval x = _ from hv, Op.unary, Op.intBits]) rfl

theorem s_convP (s d : TypeId) (x : Operand) (hop : o.op = .convert s d x) (po : POp) (hpo : (∃ k sk, P.underlying s = some (.int sk) ∧ P.underlying d = some (.int k) ∧ po = .conv k) ∨ (∃ sk, P.underlying s = some (.int sk) ∧ P.underlying d = some .string ∧ po = .i2s))
    (hc : with1 G (.p po) x = some (opc, args)) (he : EnvR G H.next E env a) (h : HRel G B w0 E H w) (hs : osem C opc (args.map env.ev) H = some (v, H')) :
    Out P G B w0 E H w (execOp a.eval o) v H' := by
  obtain ⟨x', h1, rfl, rfl⟩ := with1_eq hc
  obtain ⟨h2, rfl⟩ := osem_p hs
  have hv := opd_VR he h1
  simp only [List.map_cons, List.map_nil] at h2
  rcases hpo with ⟨k, sk, q1, q2, rfl⟩ | ⟨sk, q1, q2, rfl⟩
  · cases e : env.ev x' <;> rw [e] at h2 hv <;> simp only [psem, reduceCtorEq] at h2
    rename_i j i
    simp at h2
    subst h2
    exact Out.pure h (u := .int k (k.wrap i)) (by simp [execOp, hop, show a.eval x = _ from hv, convert, run_underlying q1, run_underlying q2, Conv.intToInt]) rfl
  · cases e : env.ev x' <;> rw [e] at h2 hv <;> simp only [psem, reduceCtorEq] at h2
    rename_i j i
    simp at h2
    subst h2
    exact Out.pure h (u := .string (Utf8.encode i)) (by simp [execOp, hop, show a.eval x = _ from hv, convert, run_underlying q1, run_underlying q2, Conv.intToString]) (by show _ = _; rw [bs_data])

/-- A string that is turned into a string: only a string comes to it. -/
theorem s_convS (s d : TypeId) (x : Operand) (hop : o.op = .convert s d x) (q1 : P.underlying s = some .string) (q2 : P.underlying d = some .string)
    (hc : with1 G (.p (.slS false false)) x = some (opc, args)) (he : EnvR G H.next E env a) (h : HRel G B w0 E H w) (hs : osem C opc (args.map env.ev) H = some (v, H')) :
    Out P G B w0 E H w (execOp a.eval o) v H' := by
  obtain ⟨x', h1, rfl, rfl⟩ := with1_eq hc
  obtain ⟨h2, rfl⟩ := osem_p hs
  have hv := opd_VR he h1
  simp only [List.map_cons, List.map_nil, psem] at h2
  cases e : env.ev x' <;> rw [e] at h2 hv <;> simp only [sliceS, bound, reduceCtorEq] at h2
  rename_i l
  simp at h2
  subst h2
  exact Out.pure h (u := .string ⟨⟨l⟩⟩) (by simp [execOp, hop, show a.eval x = _ from hv, convert, run_underlying q1, run_underlying q2]) rfl

theorem s_ext (x : Operand) (i : Nat) (hop : o.op = .extract x i) (hc : with1 G (.p (.ext i)) x = some (opc, args)) (he : EnvR G H.next E env a) (h : HRel G B w0 E H w) (hs : osem C opc (args.map env.ev) H = some (v, H')) :
    Out P G B w0 E H w (execOp a.eval o) v H' := by
  obtain ⟨x', h1, rfl, rfl⟩ := with1_eq hc
  obtain ⟨h2, rfl⟩ := osem_p hs
  have hv := opd_VR he h1
  simp only [List.map_cons, List.map_nil] at h2
  cases e : env.ev x' <;> rw [e] at h2 hv <;> simp only [psem, reduceCtorEq] at h2
  obtain ⟨us, q1, q2⟩ := hv
  obtain ⟨u, q3, q4⟩ := q2.get _ _ h2
  have q5 : us[i]? = some u := by rw [← Array.getElem?_toList]; exact q3
  exact Out.pure h (u := u) (by simp [execOp, hop, q1, Instr.extract, q5]) q4

theorem s_field (t : TypeId) (x : Operand) (f : Nat) (hop : o.op = .field t x f) {fields : Array Field} (ht : P.underlying t = some (.struct fields)) {fd : Field} (hf : fields[f]? = some fd) {m : Nat} {g : Bool} (hm : sizeT P fd.type = some m) (hg : aggT P fd.type = some g)
    (hc : with1 G (.p (.fld fd.offset m g)) x = some (opc, args)) (he : EnvR G H.next E env a) (h : HRel G B w0 E H w) (hs : osem C opc (args.map env.ev) H = some (v, H')) :
    Out P G B w0 E H w (execOp a.eval o) v H' := by
  obtain ⟨x', h1, rfl, rfl⟩ := with1_eq hc
  obtain ⟨h2, rfl⟩ := osem_p hs
  have hv := opd_VR he h1
  simp only [List.map_cons, List.map_nil] at h2
  cases e : env.ev x' <;> rw [e] at h2 hv <;> simp only [psem, reduceCtorEq] at h2
  obtain ⟨us, q1, q2⟩ := hv
  obtain ⟨u, r1, r2⟩ := run_part (w := w) hm hg q2 h2
  exact Out.pure h (u := u) (by simp [execOp, hop, q1, Instr.field, run_underlying ht, hf, asAgg, r1]) r2

theorem s_idxS (t : TypeId) (x i : Operand) (hop : o.op = .index t x i) (ht : P.underlying t = some .string)
    (hc : with2 G (.p .idxS) x i = some (opc, args)) (he : EnvR G H.next E env a) (h : HRel G B w0 E H w) (hs : osem C opc (args.map env.ev) H = some (v, H')) :
    Out P G B w0 E H w (execOp a.eval o) v H' := by
  obtain ⟨x', y', h1, h2, rfl, rfl⟩ := with2_eq hc
  obtain ⟨h3, rfl⟩ := osem_p hs
  have v1 := opd_VR he h1
  have v2 := opd_VR he h2
  simp only [List.map_cons, List.map_nil] at h3
  cases e1 : env.ev x' <;> rw [e1] at h3 v1 <;> simp only [psem, reduceCtorEq] at h3
  cases e2 : env.ev y' <;> rw [e2] at h3 v2 <;> simp only [psem, reduceCtorEq] at h3
  rename_i s k j
  split at h3
  · rename_i hj
    cases hg : s[j.toNat]? with
    | none => simp [hg] at h3
    | some c =>
      simp [hg] at h3
      subst h3
      exact Out.pure h (u := .int .u8 c.toNat) (by simp [execOp, hop, show a.eval x = _ from v1, show a.eval i = _ from v2, Instr.index, asIntOf, run_underlying ht, hj, bs_get, hg]) rfl
  · cases h3

theorem s_idxA (t : TypeId) (x i : Operand) (hop : o.op = .index t x i) {len : Nat} {el : TypeId} (ht : P.underlying t = some (.array len el)) {m : Nat} {g : Bool} (hm : sizeT P el = some m) (hg : aggT P el = some g)
    (hc : with2 G (.p (.idxA len m g)) x i = some (opc, args)) (he : EnvR G H.next E env a) (h : HRel G B w0 E H w) (hs : osem C opc (args.map env.ev) H = some (v, H')) :
    Out P G B w0 E H w (execOp a.eval o) v H' := by
  obtain ⟨x', y', h1, h2, rfl, rfl⟩ := with2_eq hc
  obtain ⟨h3, rfl⟩ := osem_p hs
  have v1 := opd_VR he h1
  have v2 := opd_VR he h2
  simp only [List.map_cons, List.map_nil] at h3
  cases e1 : env.ev x' <;> rw [e1] at h3 v1 <;> simp only [psem, reduceCtorEq] at h3
  cases e2 : env.ev y' <;> rw [e2] at h3 v2 <;> simp only [psem, reduceCtorEq] at h3
  rename_i cs k j
  split at h3
  · rename_i hj
    obtain ⟨us, q1, q2⟩ := v1
    obtain ⟨u, r1, r2⟩ := run_part (w := w) hm hg q2 h3
    exact Out.pure h (u := u) (by simp [execOp, hop, q1, show a.eval i = _ from v2, Instr.index, asIntOf, run_underlying ht, hj, run_sizeOf hm, r1]) r2
  · cases h3

theorem add_at (g o j : Nat) : (⟨g, o, none⟩ : Addr).add j = ⟨g, o + j, none⟩ := by unfold Addr.add; split <;> simp_all

theorem s_fa (s : TypeId) (x : Operand) (f : Nat) (hop : o.op = .fieldAddr s x f) {fields : Array Field} (ht : P.underlying s = some (.struct fields)) {fd : Field} (hf : fields[f]? = some fd) {m : Nat} (hm : sizeT P fd.type = some m) (hm0 : m ≠ 0)
    (hc : with1 G (.p (.fa fd.offset)) x = some (opc, args)) (he : EnvR G H.next E env a) (h : HRel G B w0 E H w) (hs : osem C opc (args.map env.ev) H = some (v, H')) :
    Out P G B w0 E H w (execOp a.eval o) v H' := by
  obtain ⟨x', h1, rfl, rfl⟩ := with1_eq hc
  obtain ⟨h2, rfl⟩ := osem_p hs
  have hv := opd_VR he h1
  simp only [List.map_cons, List.map_nil] at h2
  cases e : env.ev x' <;> rw [e] at h2 hv <;> simp only [psem, reduceCtorEq] at h2
  rename_i p
  cases p with
  | none => simp at h2
  | some p =>
    obtain ⟨b, off⟩ := p
    simp at h2
    subst h2
    obtain ⟨q1, q2⟩ := hv
    refine Out.pure h (u := .pointer (some ⟨(E b).g, (E b).o + (off + fd.offset), none⟩)) ?_ ⟨q1, rfl⟩
    simp [execOp, hop, q2, Instr.fieldAt, run_underlying ht, hf, Instr.sureAddr, fieldPlace, run_sizeOf hm, hm0, add_at, Nat.add_assoc]

theorem s_ia (t : TypeId) (x i : Operand) (hop : o.op = .indexAddr t x i) {el : TypeId} (ht : P.underlying t = some (.slice el)) {m : Nat} (hm : sizeT P el = some m)
    (hc : with2 G (.p (.ia m)) x i = some (opc, args)) (he : EnvR G H.next E env a) (h : HRel G B w0 E H w) (hs : osem C opc (args.map env.ev) H = some (v, H')) :
    Out P G B w0 E H w (execOp a.eval o) v H' := by
  obtain ⟨x', y', h1, h2, rfl, rfl⟩ := with2_eq hc
  obtain ⟨h3, rfl⟩ := osem_p hs
  have v1 := opd_VR he h1
  have v2 := opd_VR he h2
  simp only [List.map_cons, List.map_nil] at h3
  cases e1 : env.ev x' <;> rw [e1] at h3 v1 <;> simp only [psem, reduceCtorEq] at h3
  rename_i p sz len cap
  cases p with
  | none => simp at h3
  | some p =>
    obtain ⟨b, off⟩ := p
    cases e2 : env.ev y' <;> rw [e2] at h3 v2 <;> simp only [reduceCtorEq] at h3
    rename_i k j
    split at h3
    · rename_i hj
      simp at h3
      subst h3
      obtain ⟨q1, ad, c, q2, q3, q4, q5⟩ := v1
      obtain ⟨q6, _⟩ := q5 (by omega)
      refine Out.pure h (u := .pointer (some ⟨(E b).g, (E b).o + (off + j.toNat * m), none⟩)) ?_ ⟨q1, rfl⟩
      simp [execOp, hop, q2, show a.eval i = _ from v2, Instr.indexAt, asIntOf, run_underlying ht, hj, run_sizeOf hm, q6, add_at, Nat.add_assoc]
    · cases h3

theorem s_iap (t : TypeId) (x i : Operand) (hop : o.op = .indexAddr t x i) {len : Nat} {el : TypeId} (ht : P.underlying t = some (.array len el)) {m : Nat} (hm : sizeT P el = some m)
    (hc : with2 G (.p (.iap len m)) x i = some (opc, args)) (he : EnvR G H.next E env a) (h : HRel G B w0 E H w) (hs : osem C opc (args.map env.ev) H = some (v, H')) :
    Out P G B w0 E H w (execOp a.eval o) v H' := by
  obtain ⟨x', y', h1, h2, rfl, rfl⟩ := with2_eq hc
  obtain ⟨h3, rfl⟩ := osem_p hs
  have v1 := opd_VR he h1
  have v2 := opd_VR he h2
  simp only [List.map_cons, List.map_nil] at h3
  cases e1 : env.ev x' <;> rw [e1] at h3 v1 <;> simp only [psem, reduceCtorEq] at h3
  rename_i p
  cases p with
  | none => simp at h3
  | some p =>
    obtain ⟨b, off⟩ := p
    cases e2 : env.ev y' <;> rw [e2] at h3 v2 <;> simp only [reduceCtorEq] at h3
    rename_i k j
    split at h3
    · rename_i hj
      simp at h3
      subst h3
      obtain ⟨q1, q2⟩ := v1
      refine Out.pure h (u := .pointer (some ⟨(E b).g, (E b).o + (off + j.toNat * m), none⟩)) ?_ ⟨q1, rfl⟩
      simp [execOp, hop, q2, show a.eval i = _ from v2, Instr.indexAt, asIntOf, run_underlying ht, hj, run_sizeOf hm, add_at, Nat.add_assoc, Instr.sureAddr]
    · cases h3

theorem s_mkF (f : FuncId) (first caps : Array Operand) (hop : o.op = .makeFunc (.func f) first caps) (hc : withs G (.p (.mkF (G f) first.size)) (first.toList ++ caps.toList) = some (opc, args)) (he : EnvR G H.next E env a) (h : HRel G B w0 E H w) (hs : osem C opc (args.map env.ev) H = some (v, H')) :
    Out P G B w0 E H w (execOp a.eval o) v H' := by
  obtain ⟨h1, rfl⟩ := withs_eq hc
  obtain ⟨h2, rfl⟩ := osem_p hs
  have hv := opds_VRs he h1
  simp only [psem, Option.some.injEq] at h2
  subst h2
  refine Out.pure h (u := .func (.func f) (first.map a.eval) (caps.map a.eval)) (by simp [execOp, hop, Instr.makeFunc]) ⟨f, _, _, rfl, rfl, ?_, ?_⟩
  · have := hv.take first.size
    simpa [List.take_append] using this
  · have := hv.drop first.size
    simpa [List.drop_append] using this


/-! ### The builtins that compute -/
theorem exec_builtin {c : Call} {b : Builtin} (hop : o.op = .call c) (hcal : c.callee = .builtin b) :
    execOp a.eval o = builtin b c.argTypes o.type (c.args.map fun | .const _ => true | _ => false) (c.args.map a.eval) := by
  simp only [execOp, hop, resolve, hcal]
  rfl

theorem get0 {α : Type} {xs : Array α} {x : α} {r : List α} (h : xs.toList = x :: r) : xs[0]? = some x := by rw [← Array.getElem?_toList, h]; rfl
theorem get1 {α : Type} {xs : Array α} {x y : α} {r : List α} (h : xs.toList = x :: y :: r) : xs[1]? = some y := by rw [← Array.getElem?_toList, h]; rfl
theorem map_get0 {xs : Array Operand} {x : Operand} {r : List Operand} (h : xs.toList = x :: r) : (xs.map a.eval)[0]? = some (a.eval x) := by rw [Array.getElem?_map, get0 h]; rfl
theorem map_get1 {xs : Array Operand} {x y : Operand} {r : List Operand} (h : xs.toList = x :: y :: r) : (xs.map a.eval)[1]? = some (a.eval y) := by rw [Array.getElem?_map, get1 h]; rfl

theorem s_len (c : Call) (hop : o.op = .call c) (hcal : c.callee = .builtin .len) {t : TypeId} {ts : List TypeId} {x : Operand} {xs : List Operand} (ht : c.argTypes.toList = t :: ts) (hx : c.args.toList = x :: xs)
    {e : TypeId} (hd : P.underlying t = some (.slice e)) (hc : with1 G (.p .len) x = some (opc, args)) (he : EnvR G H.next E env a) (h : HRel G B w0 E H w) (hs : osem C opc (args.map env.ev) H = some (v, H')) :
    Out P G B w0 E H w (execOp a.eval o) v H' := by
  obtain ⟨x', h1, rfl, rfl⟩ := with1_eq hc
  obtain ⟨h2, rfl⟩ := osem_p hs
  have hv := opd_VR he h1
  simp only [List.map_cons, List.map_nil] at h2
  cases e1 : env.ev x' <;> rw [e1] at h2 hv <;> simp only [psem, reduceCtorEq] at h2
  rename_i p sz len cap
  simp at h2
  subst h2
  have hu : ∃ ad c', a.eval x = .slice ad len c' := by
    cases p with
    | none => obtain ⟨rfl, q⟩ := hv; exact ⟨_, _, q⟩
    | some p => obtain ⟨_, ad, c', q, _⟩ := hv; exact ⟨_, _, q⟩
  obtain ⟨ad, c', q⟩ := hu
  refine Out.pure h (u := .int .i64 len) ?_ rfl
  rw [exec_builtin hop hcal]
  simp [builtin, Builtin.len_, get0 ht, map_get0 hx, run_underlying hd, q, goInt]

theorem s_lenStr (c : Call) (hop : o.op = .call c) (hcal : c.callee = .builtin .len) {t : TypeId} {ts : List TypeId} {x : Operand} {xs : List Operand} (ht : c.argTypes.toList = t :: ts) (hx : c.args.toList = x :: xs)
    (hd : P.underlying t = some .string) (hc : with1 G (.p .lenS) x = some (opc, args)) (he : EnvR G H.next E env a) (h : HRel G B w0 E H w) (hs : osem C opc (args.map env.ev) H = some (v, H')) :
    Out P G B w0 E H w (execOp a.eval o) v H' := by
  obtain ⟨x', h1, rfl, rfl⟩ := with1_eq hc
  obtain ⟨h2, rfl⟩ := osem_p hs
  have hv := opd_VR he h1
  simp only [List.map_cons, List.map_nil] at h2
  cases e1 : env.ev x' <;> rw [e1] at h2 hv <;> simp only [psem, reduceCtorEq] at h2
  simp at h2
  subst h2
  refine Out.pure h (u := _) ?_ rfl
  rw [exec_builtin hop hcal]
  simp [builtin, Builtin.len_, get0 ht, map_get0 hx, run_underlying hd, show a.eval x = _ from hv, goInt, bs_size]

theorem s_lenA (c : Call) (hop : o.op = .call c) (hcal : c.callee = .builtin .len) {t : TypeId} {ts : List TypeId} {x : Operand} {xs : List Operand} (ht : c.argTypes.toList = t :: ts) (hx : c.args.toList = x :: xs)
    {k : Nat} {e : TypeId} (hd : P.underlying t = some (.array k e)) (hc : some (AOpc.p (.lit (.int .i64 k)), ([] : List AOpd)) = some (opc, args)) (he : EnvR G H.next E env a) (h : HRel G B w0 E H w) (hs : osem C opc (args.map env.ev) H = some (v, H')) :
    Out P G B w0 E H w (execOp a.eval o) v H' := by
  simp at hc
  obtain ⟨rfl, rfl⟩ := hc
  obtain ⟨h2, rfl⟩ := osem_p hs
  simp [psem] at h2
  subst h2
  refine Out.pure h (u := .int .i64 k) ?_ rfl
  rw [exec_builtin hop hcal]
  simp [builtin, Builtin.len_, get0 ht, map_get0 hx, run_underlying hd, goInt]

theorem s_cap (c : Call) (hop : o.op = .call c) (hcal : c.callee = .builtin .cap) {t : TypeId} {ts : List TypeId} {x : Operand} {xs : List Operand} (ht : c.argTypes.toList = t :: ts) (hx : c.args.toList = x :: xs)
    {e : TypeId} (hd : P.underlying t = some (.slice e)) (hc : with1 G (.p .cap) x = some (opc, args)) (he : EnvR G H.next E env a) (h : HRel G B w0 E H w) (hs : osem C opc (args.map env.ev) H = some (v, H')) :
    Out P G B w0 E H w (execOp a.eval o) v H' := by
  obtain ⟨x', h1, rfl, rfl⟩ := with1_eq hc
  obtain ⟨h2, rfl⟩ := osem_p hs
  have hv := opd_VR he h1
  simp only [List.map_cons, List.map_nil] at h2
  cases e1 : env.ev x' <;> rw [e1] at h2 hv <;> simp only [psem, reduceCtorEq] at h2
  rename_i p sz len cap
  cases p with
  | none =>
    simp at h2
    subst h2
    refine Out.pure h (u := .int .i64 0) ?_ rfl
    rw [exec_builtin hop hcal]
    simp [builtin, Builtin.cap_, get0 ht, map_get0 hx, run_underlying hd, hv.2, goInt]
  | some p =>
    obtain ⟨_, ad, c', q, _, q2, _⟩ := hv
    cases cap with
    | none => simp at h2
    | some k =>
      simp at h2
      subst h2
      have := q2 k rfl
      subst this
      refine Out.pure h (u := .int .i64 c') ?_ rfl
      rw [exec_builtin hop hcal]
      simp [builtin, Builtin.cap_, get0 ht, map_get0 hx, run_underlying hd, q, goInt]

theorem fold_max {n : Nat} {E : Nat → Ent} : ∀ (vs : List AV) (us : List Value) (x : AV) (u : Value) (r : AV), VR G n E x u → VRs G n E vs us → foldO max2 x vs = some r → ∃ z, (us.foldlM Builtin.max2 u).run P w = .ok z w ∧ VR G n E r z
  | [], us, x, u, r, hx, hv, hr => by
    rw [show us = [] from hv]
    simp [foldO] at hr; subst hr
    exact ⟨u, by simp, hx⟩
  | y :: vs, us, x, u, r, hx, hv, hr => by
    obtain ⟨z, us', rfl, hz, hv'⟩ := hv
    cases x <;> cases y <;> simp only [foldO, max2, reduceCtorEq] at hr
    rename_i k i l j
    obtain ⟨z', h1, h2⟩ := fold_max vs us' (.int k (if j > i then j else i)) (.int k (if j > i then j else i)) r rfl hv' hr
    refine ⟨z', ?_, h2⟩
    rw [show u = _ from hx, show z = _ from hz, List.foldlM_cons, Sem.run_bind]
    simp only [Builtin.max2, Sem.run_pure, Result.andThen_ok]
    exact h1
theorem fold_min {n : Nat} {E : Nat → Ent} : ∀ (vs : List AV) (us : List Value) (x : AV) (u : Value) (r : AV), VR G n E x u → VRs G n E vs us → foldO min2 x vs = some r → ∃ z, (us.foldlM Builtin.min2 u).run P w = .ok z w ∧ VR G n E r z
  | [], us, x, u, r, hx, hv, hr => by
    rw [show us = [] from hv]
    simp [foldO] at hr; subst hr
    exact ⟨u, by simp, hx⟩
  | y :: vs, us, x, u, r, hx, hv, hr => by
    obtain ⟨z, us', rfl, hz, hv'⟩ := hv
    cases x <;> cases y <;> simp only [foldO, min2, reduceCtorEq] at hr
    rename_i k i l j
    obtain ⟨z', h1, h2⟩ := fold_min vs us' (.int k (if j < i then j else i)) (.int k (if j < i then j else i)) r rfl hv' hr
    refine ⟨z', ?_, h2⟩
    rw [show u = _ from hx, show z = _ from hz, List.foldlM_cons, Sem.run_bind]
    simp only [Builtin.min2, Sem.run_pure, Result.andThen_ok]
    exact h1

theorem s_max (c : Call) (hop : o.op = .call c) (hcal : c.callee = .builtin .max) {x : Operand} {xs : List Operand} (hx : c.args.toList = x :: xs)
    (hc : withs G (.p .max) (x :: xs) = some (opc, args)) (he : EnvR G H.next E env a) (h : HRel G B w0 E H w) (hs : osem C opc (args.map env.ev) H = some (v, H')) :
    Out P G B w0 E H w (execOp a.eval o) v H' := by
  obtain ⟨h1, rfl⟩ := withs_eq hc
  obtain ⟨h2, rfl⟩ := osem_p hs
  have hv := opds_VRs he h1
  rw [List.map_cons] at hv
  obtain ⟨a1, as, e1, q1, q2⟩ := hv.inv_cons
  rw [e1] at h2
  simp only [psem] at h2
  obtain ⟨z, r1, r2⟩ := fold_max (P := P) (w := w) as _ a1 _ v q1 q2 h2
  refine Out.pure h (u := z) ?_ r2
  rw [exec_builtin hop hcal]
  simp [builtin, Builtin.max_, Array.toList_map, hx, r1]
theorem s_min (c : Call) (hop : o.op = .call c) (hcal : c.callee = .builtin .min) {x : Operand} {xs : List Operand} (hx : c.args.toList = x :: xs)
    (hc : withs G (.p .min) (x :: xs) = some (opc, args)) (he : EnvR G H.next E env a) (h : HRel G B w0 E H w) (hs : osem C opc (args.map env.ev) H = some (v, H')) :
    Out P G B w0 E H w (execOp a.eval o) v H' := by
  obtain ⟨h1, rfl⟩ := withs_eq hc
  obtain ⟨h2, rfl⟩ := osem_p hs
  have hv := opds_VRs he h1
  rw [List.map_cons] at hv
  obtain ⟨a1, as, e1, q1, q2⟩ := hv.inv_cons
  rw [e1] at h2
  simp only [psem] at h2
  obtain ⟨z, r1, r2⟩ := fold_min (P := P) (w := w) as _ a1 _ v q1 q2 h2
  refine Out.pure h (u := z) ?_ r2
  rw [exec_builtin hop hcal]
  simp [builtin, Builtin.min_, Array.toList_map, hx, r1]

/-! ### Slices, structs -/
theorem bound_BdR {n : Nat} {x : Option Operand} {vs rest : List AV} {us : List Value} {r : Option Nat} (h : bound x.isSome vs = some (r, rest)) (hv : VRs G n E vs ((optO x).map a.eval ++ us)) : BdR (x.map a.eval) r ∧ VRs G n E rest us := by
  cases x with
  | none =>
    simp [bound] at h
    obtain ⟨rfl, rfl⟩ := h
    exact ⟨trivial, hv⟩
  | some x =>
    simp only [optO, List.map_cons, List.map_nil, List.cons_append, List.nil_append] at hv
    obtain ⟨a1, as, rfl, q1, q2⟩ := hv.inv_cons
    simp only [bound, Option.isSome_some, if_true] at h
    cases hn : natOf a1 with
    | none => simp [hn] at h
    | some m =>
      simp [hn] at h
      obtain ⟨rfl, rfl⟩ := h
      exact ⟨natOf_VR hn q1, q2⟩

theorem s_sl (t : TypeId) (x : Operand) (lo hi mx : Option Operand) (hop : o.op = .slice t x lo hi mx) {el : TypeId} (ht : P.underlying t = some (.slice el)) {m : Nat} (hm : sizeT P el = some m) (hx : ¬ (mx.isSome && hi.isNone) = true)
    (hc : withs G (.p (.sl m lo.isSome hi.isSome mx.isSome)) (x :: optO lo ++ optO hi ++ optO mx) = some (opc, args)) (he : EnvR G H.next E env a) (h : HRel G B w0 E H w) (hs : osem C opc (args.map env.ev) H = some (v, H')) :
    Out P G B w0 E H w (execOp a.eval o) v H' := by
  obtain ⟨h1, rfl⟩ := withs_eq hc
  obtain ⟨h2, rfl⟩ := osem_p hs
  have hv := opds_VRs he h1
  simp only [List.cons_append, List.map_cons, List.map_append, List.append_assoc] at hv
  obtain ⟨a1, as, e1, q1, hv⟩ := hv.inv_cons
  rw [e1] at h2
  simp only [psem, slice] at h2
  cases a1 <;> simp only [reduceCtorEq] at h2
  rename_i p sv len cap
  cases hb1 : bound lo.isSome as with
  | none => simp [hb1] at h2
  | some z1 =>
    obtain ⟨l, r1⟩ := z1
    simp only [hb1] at h2
    obtain ⟨bl, hv⟩ := bound_BdR hb1 hv
    cases hb2 : bound hi.isSome r1 with
    | none => simp [hb2] at h2
    | some z2 =>
      obtain ⟨hh, r2⟩ := z2
      simp only [hb2] at h2
      obtain ⟨bh, hv⟩ := bound_BdR hb2 hv
      cases hb3 : bound mx.isSome r2 with
      | none => simp [hb3] at h2
      | some z3 =>
        obtain ⟨mm, r3⟩ := z3
        simp only [hb3] at h2
        have hv' : VRs G H'.next E r2 ((optO mx).map a.eval ++ []) := by rw [List.append_nil]; exact hv
        obtain ⟨bm, hv''⟩ := bound_BdR hb3 hv'
        obtain rfl := hv''.inv_nil
        simp only at h2
        have hxm : (mx.map a.eval).isSome = true → (hi.map a.eval).isSome = true := by
          cases mx <;> cases hi <;> simp at hx ⊢
        split at h2
        · rename_i k
          simp only [Option.some.injEq] at h2
          obtain ⟨u', g1, g2⟩ := run_sl (P := P) (w := w) ht hm q1 bl bh bm hxm k.2.2.2 k.1 k.2.1 k.2.2.1
          refine Out.pure h (u := u') (by simp [execOp, hop, g1]) ?_
          rw [← h2]; exact g2
        · cases h2

theorem s_slS (t : TypeId) (x : Operand) (lo hi : Option Operand) (hop : o.op = .slice t x lo hi none) (ht : P.underlying t = some .string)
    (hc : withs G (.p (.slS lo.isSome hi.isSome)) (x :: optO lo ++ optO hi) = some (opc, args)) (he : EnvR G H.next E env a) (h : HRel G B w0 E H w) (hs : osem C opc (args.map env.ev) H = some (v, H')) :
    Out P G B w0 E H w (execOp a.eval o) v H' := by
  obtain ⟨h1, rfl⟩ := withs_eq hc
  obtain ⟨h2, rfl⟩ := osem_p hs
  have hv := opds_VRs he h1
  simp only [List.cons_append, List.map_cons, List.map_append, List.append_assoc] at hv
  obtain ⟨a1, as, e1, q1, hv⟩ := hv.inv_cons
  rw [e1] at h2
  simp only [psem, sliceS] at h2
  cases a1 <;> simp only [reduceCtorEq] at h2
  rename_i s
  cases hb1 : bound lo.isSome as with
  | none => simp [hb1] at h2
  | some z1 =>
    obtain ⟨l, r1⟩ := z1
    simp only [hb1] at h2
    obtain ⟨bl, hv⟩ := bound_BdR hb1 hv
    cases hb2 : bound hi.isSome r1 with
    | none => simp [hb2] at h2
    | some z2 =>
      obtain ⟨hh, r2⟩ := z2
      simp only [hb2] at h2
      have hv' : VRs G H'.next E r1 ((optO hi).map a.eval ++ []) := by rw [List.append_nil]; exact hv
      obtain ⟨bh, hv''⟩ := bound_BdR hb2 hv'
      obtain rfl := hv''.inv_nil
      simp only at h2
      split at h2
      · rename_i k
        simp only [Option.some.injEq] at h2
        subst h2
        have g1 := run_slS (P := P) (w := w) ht bl bh k.2 k.1
        refine Out.pure h (u := _) ?_ rfl
        simp only [execOp, hop, Option.map_none, show a.eval x = _ from q1, Sem.run_bind, g1, Result.andThen_ok, Sem.run_pure]
      · cases h2

theorem s_bld (t : TypeId) (parts : Array (Nat × Operand)) (hop : o.op = .build t parts) {zs : List AV} (hz : zeroOf P t = some (.agg zs)) {pl : List (Nat × Nat)} {place : Nat → Option (Nat × Nat)}
    (hp : mapO (fun (p : Nat × Operand) => place p.1) parts.toList = some pl)
    (hrun : ∀ zv : Value, (zeroValue t).run P w = .ok zv w → ∀ (ps : Array (Nat × Value)) cells, Instr.fill place zv.cells ps.toList = some cells → (Instr.build t ps).run P w = .ok (.agg cells) w)
    (hc : withs G (.p (.bld zs pl)) (parts.toList.map (·.2)) = some (opc, args)) (he : EnvR G H.next E env a) (h : HRel G B w0 E H w) (hs : osem C opc (args.map env.ev) H = some (v, H')) :
    Out P G B w0 E H w (execOp a.eval o) v H' := by
  obtain ⟨h1, rfl⟩ := withs_eq hc
  obtain ⟨h2, rfl⟩ := osem_p hs
  have hv := opds_VRs he h1
  obtain ⟨i, z, i1, i2, i3⟩ := zero_info hz
  have hzv : (zeroValue t).run P w = .ok z w := by simp [zeroValue, typeInfo, i1, i2]
  obtain ⟨us, z1, z2⟩ : VR G H'.next E (.agg zs) z := ofValue_VR i3
  simp only [psem] at h2
  cases hf : Am.fill zs pl (args.map env.ev) with
  | none => simp [hf] at h2
  | some cs =>
    simp [hf] at h2
    subst h2
    have hm : mapO (fun (p : Nat × Value) => place p.1) (parts.toList.map fun p => (p.1, a.eval p.2)) = some pl := by
      clear hrun hc h1 hv hf hs
      revert pl
      generalize parts.toList = l
      induction l with
      | nil => intro pl hp; simpa [mapO] using hp
      | cons p l ih =>
        intro pl hp
        unfold mapO at hp ⊢
        cases e1 : place p.1 with
        | none => simp [e1] at hp
        | some q =>
          cases e2 : mapO (fun (p : Nat × Operand) => place p.1) l with
          | none => simp [e1, e2] at hp
          | some pl' =>
            simp [e1, e2] at hp
            subst hp
            simp [e1, ih e2]
    have hv2 : VRs G H'.next E (args.map env.ev) ((parts.toList.map fun p => (p.1, a.eval p.2)).map (·.2)) := by simpa [List.map_map, Function.comp_def] using hv
    obtain ⟨us', f1, f2⟩ := fill_VRs (place := place) _ pl _ zs cs us hf z2 hm hv2
    have := hrun z hzv (parts.map fun p => (p.1, a.eval p.2)) us' (by rw [z1]; simpa [Value.cells] using f1)
    refine Out.pure h (u := .agg us') ?_ ⟨us', rfl, f2⟩
    simp only [execOp, hop, Sem.run_bind, this, Result.andThen_ok, Sem.run_pure]

end
end Go.Am
