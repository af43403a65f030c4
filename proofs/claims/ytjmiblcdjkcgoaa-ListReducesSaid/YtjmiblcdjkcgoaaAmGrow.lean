/- Appending zeros: 'append(s, make([]T, n)...)', as the front end folds it. -/
import Derived.Test.YtjmiblcdjkcgoaaAmSimW2
set_option linter.unusedVariables false
set_option linter.unusedSimpArgs false
namespace Go.Am
open Go.RowKit
variable {G : Nat → Nat} {P : Program}
section
variable {B : Nat} {w0 w : World} {E : Nat → Ent} {H : AHeap}
variable {C : CallF} {o : Oper} {opc : AOpc} {args : List AOpd} {env : Env} {a : Act} {v : AV} {H' : AHeap}

theorem run_zeros_room {ts : Array TypeId} {ty : TypeId} {as : Array Value} {t el u' : TypeId} {k k' : IntKind} {i : TypeInfo} {z : Value} {base : Option Addr} {sLen sCap m : Nat} {w' : World}
    (h0 : ts[0]? = some t) (h1 : ts[1]? = some u') (hu : P.underlying u' = some (.int k)) (ht : P.underlying t = some (.slice el)) (hi : P.info? el = some i) (hz : i.zero = some z) (hsz : i.size ≠ 0)
    (a0 : as[0]? = some (.slice base sLen sCap)) (a1 : as[1]? = some (.int k' (m : Int))) (hm : IntKind.i64.wrap (m : Int) = m) (hb : ¬ ((m : Int) * i.bytes > 2 ^ 48)) (hg : sLen + m ≤ sCap)
    (hst : (match base with | some a => storeCells (a.add (sLen * i.size)) (Builtin.zeroCells z.cells m).toList | none => pure () : Sem Unit).run P w = .ok () w') :
    (Builtin.append_ ts ty as).run P w = .ok (.slice base (sLen + m) sCap) w' := by
  have hneg : ¬ ((m : Int) < 0) := by omega
  have hb' : ¬ (281474976710656 < (m : Int) * i.bytes) := by omega
  by_cases hm0 : m * i.size = 0
  · have hm0' : m = 0 := by rcases Nat.mul_eq_zero.1 hm0 with h | h; exact h; exact absurd h hsz
    subst hm0'
    have hzc : Builtin.zeroCells z.cells 0 = #[] := by simp [Builtin.zeroCells]
    rw [hzc] at hst
    cases base with
    | none =>
      simp at hst
      subst hst
      simp at hm hg
      simp [Builtin.append_, h0, h1, a0, a1, run_underlying ht, run_underlying hu, sizeOf, typeInfo, hi, asInt, asIntOf, hm, hg]
    | some ad =>
      simp only at hst
      simp at hm hg
      simp [Builtin.append_, h0, h1, a0, a1, run_underlying ht, run_underlying hu, sizeOf, typeInfo, hi, asInt, asIntOf, hm, hg, hst]
  · cases base with
    | none =>
      simp at hst
      subst hst
      simp [Builtin.append_, h0, h1, a0, a1, run_underlying ht, run_underlying hu, sizeOf, typeInfo, hi, asInt, asIntOf, hm, hg, hneg, hb', hm0, zeroValue, hz]
    | some ad =>
      simp only at hst
      simp [Builtin.append_, h0, h1, a0, a1, run_underlying ht, run_underlying hu, sizeOf, typeInfo, hi, asInt, asIntOf, hm, hg, hneg, hb', hm0, zeroValue, hz, hst]

theorem run_zeros_grow {ts : Array TypeId} {ty : TypeId} {as : Array Value} {t el u' : TypeId} {k k' : IntKind} {i : TypeInfo} {z : Value} {base : Option Addr} {sLen sCap m : Nat} {olds : Array Value}
    (h0 : ts[0]? = some t) (h1 : ts[1]? = some u') (hu : P.underlying u' = some (.int k)) (ht : P.underlying t = some (.slice el)) (hi : P.info? el = some i) (hz : i.zero = some z) (hsz : i.size ≠ 0)
    (a0 : as[0]? = some (.slice base sLen sCap)) (a1 : as[1]? = some (.int k' (m : Int))) (hm : IntKind.i64.wrap (m : Int) = m) (hb : ¬ ((m : Int) * i.bytes > 2 ^ 48))
    (holds : (Builtin.firstCells i.size sLen (.slice base sLen sCap)).run P w.drew = .ok olds w.drew) (hg : sCap < sLen + m) (h63 : sLen + m ≤ 2 ^ 60) (hfit : Builtin.nextslicecap (sLen + m) sCap * i.bytes ≤ 281474976710656) :
    (Builtin.append_ ts ty as).run P w = .ok (.slice (some ⟨w.heap.size, 0, none⟩) (sLen + m) (grownCap w (sLen + m) sCap el))
      (w.drew.alloc (.cells (olds ++ Builtin.zeroCells z.cells m ++ Builtin.zeroCells z.cells (grownCap w (sLen + m) sCap el - (sLen + m))) el)) := by
  have hneg : ¬ ((m : Int) < 0) := by omega
  have hb' : ¬ (281474976710656 < (m : Int) * i.bytes) := by omega
  have hn' : ¬ (sLen + m ≤ sCap) := by omega
  have h63' : ¬ (9223372036854775807 < ((sLen : Int) + (m : Int))) := by omega
  have h48' : ¬ (281474976710656 < Builtin.nextslicecap (sLen + m) sCap * i.bytes) := by omega
  by_cases hm0 : m * i.size = 0
  · have hm0' : m = 0 := by rcases Nat.mul_eq_zero.1 hm0 with h | h; exact h; exact absurd h hsz
    subst hm0'
    have hzc : Builtin.zeroCells z.cells 0 = #[] := by simp [Builtin.zeroCells]
    have hn2 : ¬ sLen ≤ sCap := by omega
    have h632 : ¬ (9223372036854775807 < (sLen : Int)) := by omega
    have h482 : ¬ (281474976710656 < Builtin.nextslicecap sLen sCap * i.bytes) := by simpa using h48'
    simp at hm
    simp [Builtin.append_, h0, h1, a0, a1, run_underlying ht, run_underlying hu, sizeOf, typeInfo, zeroValue, hi, hz, asInt, asIntOf, hm, hn2, h632, h482, Question.forced, holds, newRow, grownCap, hzc]
  · simp [Builtin.append_, h0, h1, a0, a1, run_underlying ht, run_underlying hu, sizeOf, typeInfo, zeroValue, hi, hz, asInt, asIntOf, hm, hneg, hb', hm0, hn', h63', h48', Question.forced, holds, newRow, grownCap]

theorem s_grow (c : Call) (hop : o.op = .call c) (hcal : c.callee = .builtin .append) {t u' : TypeId} {ts : List TypeId} {x y : Operand} {xs : List Operand} (hts : c.argTypes.toList = t :: u' :: ts) (hxs : c.args.toList = x :: y :: xs)
    {el : TypeId} (ht : P.underlying t = some (.slice el)) {k : IntKind} (hu : P.underlying u' = some (.int k)) {sz by_ : Nat} {z : AV} (hm : sizeT P el = some sz) (hb : bytesT P el = some by_) (hz : zeroOf P el = some z) (hsz : sz = z.cells.length) (hs0 : sz ≠ 0)
    (hc : with2 G (.w (.grow sz by_ z.cells)) x y = some (opc, args)) (he : EnvR G H.next E env a) (h : HRel G B w0 E H w) (hs : osem C opc (args.map env.ev) H = some (v, H')) :
    Out P G B w0 E H w (execOp a.eval o) v H' := by
  obtain ⟨x', y', h1, h2, rfl, rfl⟩ := with2_eq hc
  have v1 := opd_VR he h1
  have v2 := opd_VR he h2
  simp only [List.map_cons, List.map_nil, osem] at hs
  cases e1 : env.ev x' <;> rw [e1] at hs v1 <;> simp only [wsem, reduceCtorEq] at hs
  cases e2 : env.ev y' <;> rw [e2] at hs v2 <;> simp only [reduceCtorEq] at hs
  rename_i p sv len cap kk n
  split at hs
  · rename_i hq
    obtain ⟨n0, n1, n2⟩ := hq
    obtain ⟨m, rfl⟩ : ∃ m : Nat, n = m := ⟨n.toNat, by omega⟩
    simp only [Int.toNat_natCast] at hs
    obtain ⟨i, hi, his⟩ := info_size hm
    obtain ⟨i', j1, j2⟩ := bytes_info hb
    rw [hi] at j1; simp at j1; subst j1
    obtain ⟨i', zv, k1, k2, k3⟩ := zero_info hz
    rw [hi] at k1; simp at k1; subst k1
    have hzV := ofValue_cells (G := G) (n := H.next) (E := E) k3
    have hzc : zv.cells.size = sz := by have := hzV.length; rw [Array.length_toList] at this; omega
    have t0 := get0 hts
    have t1 := get1 hts
    have a0' : ∀ q, a.eval x = q → (c.args.map a.eval)[0]? = some q := fun q hq => by rw [map_get0 hxs, hq]
    have a1' : (c.args.map a.eval)[1]? = some (.int kk (m : Int)) := by rw [map_get1 (a := a) hxs]; exact congrArg some v2
    have hex : ∀ {val : Value} {w1 : World}, (Builtin.append_ c.argTypes o.type (c.args.map a.eval)).run P w = .ok val w1 → (execOp a.eval o).run P w = .ok (.value val) w1 := by
      intro val w1 hr
      rw [exec_builtin hop hcal]
      simp [builtin, hr]
    have hw : IntKind.i64.wrap (m : Int) = m := by unfold IntKind.wrap; simp [IntKind.bits, IntKind.signed]; omega
    have hbb : ¬ ((m : Int) * i.bytes > 2 ^ 48) := by rw [j2]; omega
    have hrow := zeros_VRs hzV (by omega) m
    have fus : ((Builtin.zeroCells zv.cells m).toList).length = m * sz := by rw [Array.length_toList, zeroCells_len, hzc]
    have hrow' : VRs G H.next E (List.replicate m z.cells).flatten (Builtin.zeroCells zv.cells m).toList := by
      unfold Builtin.zeroCells
      rw [hzc, hsz]
      rw [hzc, hsz] at hrow
      exact hrow
    have hsi : i.size ≠ 0 := by rw [his]; exact hs0
    exact s_app_core (i := i) (zv := zv) (el := el) h v1 his j2 hzc hrow' fus
      (fun {base sLen sCap w'} hq hle hst => run_zeros_room t0 t1 hu ht hi k2 hsi (a0' _ hq) a1' hw hbb hle (by cases base <;> simpa using hst))
      (fun hq ho hlt h60 hfit => by simpa using run_zeros_grow t0 t1 hu ht hi k2 hsi (a0' _ hq) a1' hw hbb ho hlt h60 hfit) hex hs
  · cases hs
end
end Go.Am
