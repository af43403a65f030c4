/- Operations that write: append, copy, a string turned into bytes. -/
import Derived.Test.YtjmiblcdjkcgoaaAmSimW
set_option linter.unusedVariables false
set_option linter.unusedSimpArgs false
namespace Go.Am
open Go.RowKit
variable {G : Nat → Nat} {P : Program}
section
variable {B : Nat} {w0 w : World} {E : Nat → Ent} {H : AHeap}
variable {C : CallF} {o : Oper} {opc : AOpc} {args : List AOpd} {env : Env} {a : Act} {v : AV} {H' : AHeap}

theorem run_app_grow {ts : Array TypeId} {ty : TypeId} {as : Array Value} {t el u' : TypeId} {du : TypeDesc} {i : TypeInfo} {z : Value} {base : Option Addr} {sLen sCap m : Nat} {x : Value} {olds news : Array Value}
    (h0 : ts[0]? = some t) (h1 : ts[1]? = some u') (hu : P.underlying u' = some du) (hni : du = .string ∨ ∃ e, du = .slice e) (ht : P.underlying t = some (.slice el)) (hi : P.info? el = some i) (hz : i.zero = some z)
    (a0 : as[0]? = some (.slice base sLen sCap)) (a1 : as[1]? = some x) (hn : ∀ w, (Builtin.lenOf x).run P w = .ok m w)
    (holds : (Builtin.firstCells i.size sLen (.slice base sLen sCap)).run P w.drew = .ok olds w.drew) (hnews : (Builtin.firstCells i.size m x).run P w.drew = .ok news w.drew)
    (hg : sCap < sLen + m) (h63 : sLen + m ≤ 2 ^ 60) (hfit : Builtin.nextslicecap (sLen + m) sCap * i.bytes ≤ 281474976710656) :
    (Builtin.append_ ts ty as).run P w = .ok (.slice (some ⟨w.heap.size, 0, none⟩) (sLen + m) (grownCap w (sLen + m) sCap el))
      (w.drew.alloc (.cells (olds ++ news ++ Builtin.zeroCells z.cells (grownCap w (sLen + m) sCap el - (sLen + m))) el)) := by
  have hn' : ¬ (sLen + m ≤ sCap) := by omega
  have h63' : ¬ (9223372036854775807 < ((sLen : Int) + (m : Int))) := by omega
  have h48' : ¬ (281474976710656 < Builtin.nextslicecap (sLen + m) sCap * i.bytes) := by omega
  rcases hni with rfl | ⟨e, rfl⟩
  all_goals simp [Builtin.append_, h0, h1, a0, a1, run_underlying ht, run_underlying hu, sizeOf, typeInfo, zeroValue, hi, hz, hn, hn', h63', h48', Question.forced, holds, hnews, newRow, grownCap]

theorem run_app_room {ts : Array TypeId} {ty : TypeId} {as : Array Value} {t el u' : TypeId} {du : TypeDesc} {i : TypeInfo} {base : Option Addr} {sLen sCap m : Nat} {x : Value} {news : Array Value} {w' : World}
    (h0 : ts[0]? = some t) (h1 : ts[1]? = some u') (hu : P.underlying u' = some du) (hni : du = .string ∨ ∃ e, du = .slice e) (ht : P.underlying t = some (.slice el)) (hi : P.info? el = some i)
    (a0 : as[0]? = some (.slice base sLen sCap)) (a1 : as[1]? = some x) (hn : ∀ w, (Builtin.lenOf x).run P w = .ok m w)
    (hnews : (Builtin.firstCells i.size m x).run P w = .ok news w) (hg : sLen + m ≤ sCap)
    (hst : (match base with | some a => storeCells (a.add (sLen * i.size)) news.toList | none => pure () : Sem Unit).run P w = .ok () w') :
    (Builtin.append_ ts ty as).run P w = .ok (.slice base (sLen + m) sCap) w' := by
  cases base with
  | none =>
    simp at hst
    subst hst
    rcases hni with rfl | ⟨e, rfl⟩
    all_goals simp [Builtin.append_, h0, h1, a0, a1, run_underlying ht, run_underlying hu, sizeOf, typeInfo, hi, hn, hg, hnews]
  | some ad =>
    simp only at hst
    rcases hni with rfl | ⟨e, rfl⟩
    all_goals simp [Builtin.append_, h0, h1, a0, a1, run_underlying ht, run_underlying hu, sizeOf, typeInfo, hi, hn, hg, hnews, hst]

theorem grownCap_ge' (w : World) (need old : Nat) (e : TypeId) : need ≤ grownCap w need old e := grownCap_ge w need old e

theorem zeroCells_len (z : Array Value) (k : Nat) : (Builtin.zeroCells z k).size = k * z.size := by simp [Builtin.zeroCells]

/-- Appending into a new block. -/
theorem app_fresh (h : HRel G B w0 E H w) {s : Sem Next} {f : Nat} {alt : Option Nat} (hf : f = H.next ∨ ((H.fam f).isSome = true ∧ f < H.next)) (halt : ∀ b, alt = some b → ∃ cs1, H.row b = some (f, cs1))
    {sz len m cap : Nat} {el : TypeId} {z : Array Value} (hz : z.size = sz) {cells : List AV} {us : List Value} (hv : VRs G H.next E cells us) (hl : us.length = (len + m) * sz) (hcap : len + m ≤ cap)
    (hr : s.run P w = .ok (.value (.slice (some ⟨w.heap.size, 0, none⟩) (len + m) cap)) (w.drew.alloc (.cells (us.toArray ++ Builtin.zeroCells z (cap - (len + m))) el))) :
    Out P G B w0 E H w s (.slc (some (H.next, 0)) sz (len + m) none) (H.add f alt cells) := by
  have hrest : (us.toArray ++ Builtin.zeroCells z (cap - (len + m))) = (us ++ (Builtin.zeroCells z (cap - (len + m))).toList).toArray := by simp
  have hlen : (Builtin.zeroCells z (cap - (len + m))).toList.length = (cap - (len + m)) * sz := by rw [Array.length_toList, zeroCells_len, hz]
  have hsum : us.length + (Builtin.zeroCells z (cap - (len + m))).toList.length = cap * sz := by
    rw [hl, hlen, ← Nat.add_mul]; congr 1; omega
  have hadd := (h.drew).fresh_add f alt cells hf halt us (Builtin.zeroCells z (cap - (len + m))).toList hv (cap * sz) (by rw [hl]; exact Nat.mul_le_mul_right _ hcap) (by omega) el (0, 0) (.inr rfl)
  rw [hrest] at hr
  refine ⟨_, _, _, .inl hr, ⟨by show H.next < H.next + 1; omega, _, _, rfl, hcap, (fun k hk => by cases hk), (fun hp => ?_)⟩, by show H.next ≤ H.next + 1; omega, ext_upd _ _ _, hadd⟩
  rw [upd_same]
  exact ⟨rfl, by simp⟩

/-- Appending what is at hand: 'us' are the cells that come behind. -/
theorem s_app_core {s : Sem Next} {A : Sem Value} {q : Value} {el : TypeId} {i : TypeInfo} {zv : Value} {sz by_ : Nat} {p : Option (Nat × Nat)} {sv len : Nat} {cap : Option Nat} {m : Nat} {xs' : List AV} {us : List Value} (h : HRel G B w0 E H w)
    (v1 : VR G H.next E (.slc p sv len cap) q) (his : i.size = sz) (j2 : i.bytes = by_) (hzc : zv.cells.size = sz) (fv : VRs G H.next E xs' us) (fus : us.length = m * sz)
    (hR : ∀ {base : Option Addr} {sLen sCap : Nat} {w' : World}, q = .slice base sLen sCap → sLen + m ≤ sCap → (match base with | some a => storeCells (a.add (sLen * i.size)) us.toArray.toList | none => pure () : Sem Unit).run P w = .ok () w' → A.run P w = .ok (.slice base (sLen + m) sCap) w')
    (hG : ∀ {base : Option Addr} {sLen sCap : Nat} {olds : Array Value}, q = .slice base sLen sCap → (Builtin.firstCells i.size sLen (.slice base sLen sCap)).run P w.drew = .ok olds w.drew → sCap < sLen + m → sLen + m ≤ 2 ^ 60 → Builtin.nextslicecap (sLen + m) sCap * i.bytes ≤ 281474976710656 →
      A.run P w = .ok (.slice (some ⟨w.heap.size, 0, none⟩) (sLen + m) (grownCap w (sLen + m) sCap el)) (w.drew.alloc (.cells (olds ++ us.toArray ++ Builtin.zeroCells zv.cells (grownCap w (sLen + m) sCap el - (sLen + m))) el)))
    (hex : ∀ {val : Value} {w1 : World}, A.run P w = .ok val w1 → s.run P w = .ok (.value val) w1)
    (hs : H.app sz by_ p sv len cap m xs' = some (v, H')) : Out P G B w0 E H w s v H' := by
  unfold AHeap.app at hs
  split at hs
  · -- nothing is appended
    rename_i hm0
    simp only [Option.some.injEq, Prod.mk.injEq] at hs
    obtain ⟨rfl, rfl⟩ := hs
    subst hm0
    have hus : us = [] := List.eq_nil_of_length_eq_zero (by rw [fus]; simp)
    subst hus
    cases p with
    | none =>
      obtain ⟨rfl, q1'⟩ := v1
      refine Out.pure h (u := .slice none 0 0) (hex ?_) ⟨rfl, rfl⟩
      exact hR q1' (Nat.le_refl _) rfl
    | some p =>
      obtain ⟨q1, ad, cc, q2, q3, q4, q5⟩ := v1
      refine Out.pure h (u := .slice (some ad) len cc) (hex ?_) ⟨q1, ad, cc, rfl, q3, q4, q5⟩
      exact hR q2 q3 rfl
  · rename_i hm0
    split at hs
    · cases hs
    · rename_i hcond
      simp only [not_or, Nat.not_lt, ne_eq, Decidable.not_not, Bool.not_eq_false] at hcond
      obtain ⟨c1, c2, c3, c4, c5⟩ := hcond
      have hfit : ∀ old, old < len + m → Builtin.nextslicecap (len + m) old * i.bytes ≤ 281474976710656 := fun old ho => growslice_fits ho (by rw [j2]; omega)
      cases p with
      | none =>
        obtain ⟨rfl, q1'⟩ := v1
        simp only [Option.some.injEq, Prod.mk.injEq] at hs
        obtain ⟨rfl, rfl⟩ := hs
        have hr := hG q1' (olds := #[]) (by simp [Builtin.firstCells]) (by omega) (by omega) (hfit 0 (by omega))
        rw [new_eq_add]
        have := app_fresh (P := P) (s := s) h (f := H.next) (alt := none) (.inl rfl) (fun b hb => by cases hb) (len := 0) (m := m) (el := el) hzc fv (by rw [fus]; simp) (grownCap_ge' w (0 + m) 0 el) (hex (by simpa using hr))
        simpa using this
      | some p =>
        obtain ⟨b, off⟩ := p
        obtain ⟨q1, ad, cc, q2, q3, q4, q5⟩ := v1
        simp only at hs
        split at hs
        · -- a slice without room
          rename_i h0
          obtain ⟨rfl, rfl⟩ := h0
          have hcc0 := q4 0 rfl
          subst hcc0
          simp only [Option.some.injEq, Prod.mk.injEq] at hs
          obtain ⟨rfl, rfl⟩ := hs
          have hr := hG q2 (olds := #[]) (by simp [Builtin.firstCells, Go.loadCells, loadCellsFrom]) (by omega) (by omega) (hfit 0 (by omega))
          rw [new_eq_add]
          have := app_fresh (P := P) (s := s) h (f := H.next) (alt := none) (.inl rfl) (fun b hb => by cases hb) (len := 0) (m := m) (el := el) hzc fv (by rw [fus]; simp) (grownCap_ge' w (0 + m) 0 el) (hex (by simpa using hr))
          simpa using this
        · rename_i h0
          cases hrow : H.row b with
          | none => simp [hrow] at hs
          | some pr =>
            obtain ⟨f, cs⟩ := pr
            simp only [hrow] at hs
            split at hs
            · rename_i hcs
              obtain ⟨rfl, hlen⟩ := hcs
              have hld : H.ld b off (len * sv) = some ((cs.drop off).take (len * sv)) := by unfold AHeap.ld; rw [hrow]; simp [hlen]
              obtain ⟨_, ous, o2, _, o4, o5⟩ := h.loadCells (P := P) hld
              have hoall : VRs G H.next E ((cs.drop off).take (len * sv) ++ xs') (ous ++ us) := o2.append fv
              have hol : (ous ++ us).length = (len + m) * sv := by rw [List.length_append, o4, fus, Nat.add_mul]
              -- where it is made anew
              have grow : ∀ (f' : Nat) (alt : Option Nat), cc < len + m → (f' = H.next ∨ ((H.fam f').isSome = true ∧ f' < H.next)) → (∀ b, alt = some b → ∃ cs1, H.row b = some (f', cs1)) →
                  Out P G B w0 E H w (s) (.slc (some (H.next, 0)) sv (len + m) none) (H.add f' alt ((cs.drop off).take (len * sv) ++ xs')) := by
                intro f' alt hlt hf' halt'
                have holds : (Builtin.firstCells i.size len (.slice (some ad) len cc)).run P w.drew = .ok ous.toArray w.drew := by
                  rw [his]
                  by_cases hl0 : len = 0
                  · subst hl0
                    have : ous = [] := List.eq_nil_of_length_eq_zero (by rw [o4]; simp)
                    subst this
                    simp [Builtin.firstCells, Go.loadCells, loadCellsFrom]
                  · obtain ⟨q6, _⟩ := q5 (by omega)
                    rw [q6]
                    have := run_loadCells_list (P := P) w.drew ⟨(E b).g, (E b).o + off, none⟩ ous (fun j u hj => by rw [add_at]; exact o5 j u hj)
                    rw [o4] at this
                    simpa [Builtin.firstCells] using this
                have hr := hG q2 holds hlt (by omega) (hfit cc hlt)
                exact app_fresh (P := P) (s := s) h hf' halt' (len := len) (m := m) (el := el) hzc hoall hol (grownCap_ge' w (len + m) cc el) (hex (by simpa [List.append_assoc] using hr))
              -- where there is room
              have room : ∀ cap', len + m ≤ cc → (H.fam f).isSome = true → (∀ k, cap' = some k → cc = k) →
                  Out P G B w0 E H w (s) (.slc (some (H.next, 0)) sv (len + m) cap') (H.share f b (decide (off + len * sv = cs.length)) ((cs.drop off).take (len * sv) ++ xs')) := by
                intro cap' hle hfs hcap'
                obtain ⟨q6, q7⟩ := q5 (by omega)
                have hxl : xs'.length = m * sv := c3
                have hroom : off + len * sv + xs'.length ≤ (E b).C := by
                  have : (len + m) * sv ≤ cc * sv := Nat.mul_le_mul_right _ hle
                  rw [Nat.add_mul] at this
                  omega
                obtain ⟨r1, r2, r3⟩ := h.room hrow hfs hlen xs' hroom fv
                have hst := run_storeCells_cells (P := P) (E b).g ((E b).o + off + len * sv) us 0 w (by simpa using r2) (by simpa using r3) (fv.oneCell c4)
                simp only [Nat.add_zero] at hst
                have hr := hR (w' := w.setCells (E b).g ((E b).o + off + len * sv) us) q2 hle (by
                  rw [q6, his]
                  simp only [add_at]
                  exact hst)
                refine ⟨_, _, _, .inl (hex hr), ⟨by show H.next < H.next + 1; omega, _, _, rfl, hle, hcap', fun hp => ?_⟩, by show H.next ≤ H.next + 1; omega, ext_upd _ _ _, r1⟩
                rw [upd_same]
                refine ⟨q6, ?_⟩
                show 0 + cc * sv ≤ (E b).C - off
                omega
              have hfr : ∀ hfs : (H.fam f).isSome = true, (f = H.next ∨ ((H.fam f).isSome = true ∧ f < H.next)) := fun hfs => .inr ⟨hfs, h.famlt _ _ _ (row_blk hrow)⟩
              cases cap with
              | some k =>
                simp only at hs
                have hck := q4 k rfl
                subst hck
                split at hs
                · rename_i hle
                  split at hs
                  · rename_i hfs
                    simp only [Option.some.injEq, Prod.mk.injEq] at hs
                    obtain ⟨rfl, rfl⟩ := hs
                    exact room (some cc) hle hfs (fun k hk => by simpa using hk)
                  · cases hs
                · rename_i hle
                  simp only [Option.some.injEq, Prod.mk.injEq] at hs
                  obtain ⟨rfl, rfl⟩ := hs
                  rw [new_eq_add]
                  exact grow H.next none (by omega) (.inl rfl) (fun b hb => by cases hb)
              | none =>
                simp only at hs
                split at hs
                · rename_i hfs
                  simp only [Option.some.injEq, Prod.mk.injEq] at hs
                  obtain ⟨rfl, rfl⟩ := hs
                  by_cases hle : len + m ≤ cc
                  · exact room none hle hfs (fun k hk => by cases hk)
                  · rw [share_eq_add]
                    exact grow f _ (by omega) (hfr hfs) (fun b' hb' => by
                      split at hb'
                      · simp at hb'; subst hb'; exact ⟨_, hrow⟩
                      · cases hb')
                · cases hs
            · cases hs

/-! ### copy -/

theorem s_app (c : Call) (hop : o.op = .call c) (hcal : c.callee = .builtin .append) {t u' : TypeId} {ts : List TypeId} {x y : Operand} {xs : List Operand} (hts : c.argTypes.toList = t :: u' :: ts) (hxs : c.args.toList = x :: y :: xs)
    {el : TypeId} (ht : P.underlying t = some (.slice el)) {du : TypeDesc} (hu : P.underlying u' = some du) {sz by_ : Nat} {z : AV} (hm : sizeT P el = some sz) (hb : bytesT P el = some by_) (hz : zeroOf P el = some z) (hsz : sz = z.cells.length)
    (hni : du = .string ∨ ∃ e, du = .slice e)
    (hc : with2 G (.w (.app sz by_)) x y = some (opc, args)) (he : EnvR G H.next E env a) (h : HRel G B w0 E H w) (hs : osem C opc (args.map env.ev) H = some (v, H')) :
    Out P G B w0 E H w (execOp a.eval o) v H' := by
  obtain ⟨x', y', h1, h2, rfl, rfl⟩ := with2_eq hc
  have v1 := opd_VR he h1
  have v2 := opd_VR he h2
  simp only [List.map_cons, List.map_nil, osem] at hs
  cases e1 : env.ev x' <;> rw [e1] at hs v1 <;> simp only [wsem, reduceCtorEq] at hs
  rename_i p sv len cap
  cases hln : Am.lenOf (env.ev y') with
  | none => simp [hln] at hs
  | some m =>
    cases hcc : H.cellsOf sz (env.ev y') with
    | none => simp [hln, hcc] at hs
    | some xs' =>
      simp only [hln, hcc] at hs
      obtain ⟨i, hi, his⟩ := info_size hm
      obtain ⟨i', j1, j2⟩ := bytes_info hb
      rw [hi] at j1; simp at j1; subst j1
      obtain ⟨i', zv, k1, k2, k3⟩ := zero_info hz
      rw [hi] at k1; simp at k1; subst k1
      have hzc : zv.cells.size = sz := by have := (ofValue_cells (G := G) (n := H.next) (E := E) k3).length; rw [Array.length_toList] at this; omega
      obtain ⟨fl, us, fv, fus, frun⟩ := h.firstCells (P := P) v2 hln hcc
      have hn : ∀ w', (Builtin.lenOf (a.eval y)).run P w' = .ok m w' := by
        intro w'
        have : ∀ q : Value, (Builtin.lenOf q).run P w = .ok m w → (Builtin.lenOf q).run P w' = .ok m w' := by
          intro q hq; cases q <;> simp [Builtin.lenOf] at hq ⊢ <;> exact hq
        exact this _ fl
      have t0 := get0 hts
      have t1 := get1 hts
      have a0' : ∀ q, a.eval x = q → (c.args.map a.eval)[0]? = some q := fun q hq => by rw [map_get0 hxs, hq]
      have a1' := map_get1 (a := a) hxs
      have hex : ∀ {val : Value} {w1 : World}, (Builtin.append_ c.argTypes o.type (c.args.map a.eval)).run P w = .ok val w1 → (execOp a.eval o).run P w = .ok (.value val) w1 := by
        intro val w1 hr
        rw [exec_builtin hop hcal]
        simp [builtin, hr]
      have hnewsW : (Builtin.firstCells i.size m (a.eval y)).run P w = .ok us.toArray w := by rw [his]; exact frun w (fun _ _ hh => hh)
      have hnewsD : (Builtin.firstCells i.size m (a.eval y)).run P w.drew = .ok us.toArray w.drew := by rw [his]; exact frun w.drew (fun _ _ hh => hh)
      exact s_app_core h v1 his j2 hzc fv fus
        (fun hq hle hst => run_app_room t0 t1 hu hni ht hi (a0' _ hq) a1' hn hnewsW hle hst)
        (fun hq ho hlt h60 hfit => run_app_grow t0 t1 hu hni ht hi k2 (a0' _ hq) a1' hn ho hnewsD hlt h60 hfit) hex hs

theorem s_cpy (c : Call) (hop : o.op = .call c) (hcal : c.callee = .builtin .copy) {t u' : TypeId} {ts : List TypeId} {x y : Operand} {xs : List Operand} (hts : c.argTypes.toList = t :: u' :: ts) (hxs : c.args.toList = x :: y :: xs)
    {el : TypeId} (ht : P.underlying t = some (.slice el)) {sz : Nat} (hm : sizeT P el = some sz)
    (hc : with2 G (.w (.cpy sz)) x y = some (opc, args)) (he : EnvR G H.next E env a) (h : HRel G B w0 E H w) (hs : osem C opc (args.map env.ev) H = some (v, H')) :
    Out P G B w0 E H w (execOp a.eval o) v H' := by
  obtain ⟨x', y', h1, h2, rfl, rfl⟩ := with2_eq hc
  have v1 := opd_VR he h1
  have v2 := opd_VR he h2
  simp only [List.map_cons, List.map_nil, osem] at hs
  cases e1 : env.ev x' <;> rw [e1] at hs v1 <;> simp only [wsem, reduceCtorEq] at hs
  rename_i p sv len cap
  cases hln : Am.lenOf (env.ev y') with
  | none => simp [hln] at hs
  | some m =>
    cases hcc : H.cellsOf sz (env.ev y') with
    | none => simp [hln, hcc] at hs
    | some xs' =>
      simp only [hln, hcc] at hs
      obtain ⟨i, hi, his⟩ := info_size hm
      obtain ⟨fl, us, fv, fus, frun⟩ := h.firstCells (P := P) v2 hln hcc
      have t0 := get0 hts
      have t1 := get1 hts
      have a1' := map_get1 (a := a) hxs
      have hex : ∀ {val : Value} {w1 : World}, (Builtin.copy_ c.argTypes o.type (c.args.map a.eval)).run P w = .ok val w1 → (execOp a.eval o).run P w = .ok (.value val) w1 := by
        intro val w1 hr
        rw [exec_builtin hop hcal]
        simp [builtin, hr]
      -- the first n elements of what is read
      have hfc : ∀ k, k ≤ m → (Builtin.firstCells sz k (a.eval y)).run P w = .ok (us.take (k * sz)).toArray w := by
        intro k hk
        have hfull := frun w (fun _ _ hh => hh)
        cases e2 : env.ev y' <;> rw [e2] at hln hcc v2 <;> simp only [Am.lenOf, reduceCtorEq, Option.some.injEq] at hln
        · rename_i s
          subst hln
          rw [show a.eval y = _ from v2] at hfull ⊢
          simp only [AHeap.cellsOf] at hcc
          split at hcc
          · rename_i hz1
            subst hz1
            simp only [Builtin.firstCells, bs_extract, Sem.run_pure, Result.ok.injEq] at hfull ⊢
            refine ⟨?_, trivial⟩
            have h3 := hfull.1
            simp only [List.drop_zero, List.take_length] at h3
            have : us = s.map fun b => Value.int .u8 b.toNat := by
              have := congrArg Array.toList h3
              simpa using this.symm
            rw [this]
            apply Array.ext'
            simp [List.map_take]
          · cases hcc
        · rename_i p' sv' len' cap'
          subst hln
          cases p' with
          | none =>
            obtain ⟨rfl, q⟩ := v2
            have hk0 : k = 0 := by omega
            subst hk0
            rw [q]
            simp [Builtin.firstCells]
          | some p' =>
            obtain ⟨b', off'⟩ := p'
            obtain ⟨q1, ad, cc, q2, q3, q4, q5⟩ := v2
            rw [q2]
            simp only [AHeap.cellsOf] at hcc
            by_cases hl0 : k = 0
            · subst hl0
              simp [Builtin.firstCells, Go.loadCells, loadCellsFrom]
            · rw [if_neg (by omega)] at hcc
              obtain ⟨q6, _⟩ := q5 (by omega)
              obtain ⟨_, us2, r2, _, r4, r5⟩ := h.loadCells (P := P) hcc
              have hus : us2 = us := by
                have e3 := frun w (fun _ _ hh => hh)
                rw [q2, q6] at e3
                have e4 := run_loadCells_list (P := P) w ⟨(E b').g, (E b').o + off', none⟩ us2 (fun j u hj => by rw [add_at]; exact r5 j u hj)
                rw [r4] at e4
                simp only [Builtin.firstCells, e4, Result.ok.injEq] at e3
                simpa using congrArg Array.toList e3.1
              subst hus
              rw [q6]
              have hkl : (us2.take (k * sz)).length = k * sz := by
                rw [List.length_take, fus]
                exact Nat.min_eq_left (Nat.mul_le_mul_right _ hk)
              have e4 := run_loadCells_list (P := P) w ⟨(E b').g, (E b').o + off', none⟩ (us2.take (k * sz)) (fun j u hj => by
                rw [add_at]
                refine r5 j u ?_
                rw [List.getElem?_take] at hj
                split at hj
                · exact hj
                · cases hj)
              rw [hkl] at e4
              simpa [Builtin.firstCells] using e4
      split at hs
      · rename_i hn0
        simp only [Option.some.injEq, Prod.mk.injEq] at hs
        obtain ⟨rfl, rfl⟩ := hs
        refine Out.pure h (u := .int .i64 0) (hex ?_) rfl
        have hf0 := hfc 0 (by omega)
        simp only [Nat.zero_mul, List.take_zero] at hf0
        have hu : ∃ ad c', a.eval x = .slice ad len c' := by
          cases p with
          | none => obtain ⟨rfl, q⟩ := v1; exact ⟨_, _, q⟩
          | some p => obtain ⟨_, ad, c', q, _⟩ := v1; exact ⟨_, _, q⟩
        obtain ⟨ad, c', q⟩ := hu
        have hn0' : Nat.min m len = 0 := hn0
        cases ad <;> simp [Builtin.copy_, t0, map_get0 (a := a) hxs, q, a1', run_underlying ht, fl, hn0', run_sizeOf hm, hf0, storeCells, goInt]
      · rename_i hn0
        cases p with
        | none => simp at hs
        | some p =>
          obtain ⟨b, off⟩ := p
          simp only at hs
          split at hs
          · rename_i hle
            cases hst : H.st b off (xs'.take (Nat.min m len * sz)) with
            | none => simp [hst] at hs
            | some H1 =>
              simp only [hst, Option.some.injEq, Prod.mk.injEq] at hs
              obtain ⟨rfl, rfl⟩ := hs
              obtain ⟨q1, ad, cc, q2, q3, q4, q5⟩ := v1
              have hml : Nat.min m len ≤ len := Nat.min_le_right _ _
              have hml0 : Nat.min m len ≠ 0 := hn0
              obtain ⟨q6, _⟩ := q5 (by omega)
              obtain ⟨r1, r2, r3, r4, r5, r6⟩ := h.st hst (fv.take (Nat.min m len * sz))
              have hstr := run_storeCells_cells (P := P) (E b).g ((E b).o + off) (us.take (Nat.min m len * sz)) 0 w (by simpa using r4) (by simpa using r5) r6
              simp only [Nat.add_zero] at hstr
              have hf := hfc (Nat.min m len) (Nat.min_le_left _ _)
              refine ⟨.int .i64 (Nat.min m len : Nat), _, E, .inl (hex (w1 := w.setCells (E b).g ((E b).o + off) (us.take (Nat.min m len * sz))) ?_), rfl, by rw [r2]; exact Nat.le_refl _, Ext.refl _ _, r3⟩
              simp [Builtin.copy_, t0, map_get0 (a := a) hxs, q2, a1', run_underlying ht, fl, run_sizeOf hm, hf, q6, hstr, goInt]
          · cases hs

/-! ### A string turned into bytes -/
theorem bytesWorld_eq (w : World) (e : TypeId) (s : ByteArray) : Lib.bytesWorld w e s = w.drew.alloc (.cells (Lib.bytesCells w e s) e ((Lib.bytesCells w e s).size, (Lib.bytesCells w e s).size + 1)) := by
  have h1 : (Lib.bytesWorld w e s).heap = (w.drew.alloc (.cells (Lib.bytesCells w e s) e ((Lib.bytesCells w e s).size, (Lib.bytesCells w e s).size + 1))).heap := by
    apply Array.ext_getElem?
    intro j
    rcases Nat.lt_trichotomy j w.heap.size with h | h | h
    · rw [Lib.bytesWorld_at_old w e s j h, Below.heap_alloc _ _ _ (by exact h)]; rfl
    · subst h
      rw [Lib.bytesWorld_at_new]
      exact (heap_alloc_at w.drew _).symm
    · rw [Array.getElem?_eq_none (by rw [Lib.bytesWorld_size]; omega), Array.getElem?_eq_none]
      show (w.heap.push _).size ≤ j
      rw [Array.size_push]; omega
  have h2 : ∀ (a b : World), a.heap = b.heap → a.tape = b.tape → a.drawn = b.drawn → a.os = b.os → a.output = b.output → a = b := by
    intro a b; cases a; cases b; simp; intros; simp_all
  refine h2 _ _ h1 ?_ ?_ ?_ ?_ <;> (unfold Lib.bytesWorld World.freeze; rw [if_neg (by omega)]; rfl)

theorem s_s2b (s d e : TypeId) (x : Operand) (hop : o.op = .convert s d x) (q1 : P.underlying s = some .string) (q2 : P.underlying d = some (.slice e)) (q3 : P.underlying e = some (.int .u8))
    (hc : with1 G (.w .s2b) x = some (opc, args)) (he : EnvR G H.next E env a) (h : HRel G B w0 E H w) (hs : osem C opc (args.map env.ev) H = some (v, H')) :
    Out P G B w0 E H w (execOp a.eval o) v H' := by
  obtain ⟨x', h1, rfl, rfl⟩ := with1_eq hc
  have hv := opd_VR he h1
  simp only [List.map_cons, List.map_nil, osem] at hs
  cases e1 : env.ev x' <;> rw [e1] at hs hv <;> simp only [wsem, reduceCtorEq] at hs
  rename_i l
  split at hs
  · rename_i hl
    simp only [Option.some.injEq, Prod.mk.injEq] at hs
    obtain ⟨rfl, rfl⟩ := hs
    have hr := Lib.run_convert_string_bytes (P := P) w s d e ⟨⟨l⟩⟩ q1 q2 q3
    rw [bytesWorld_eq] at hr
    have hge := grownCap_ge' w (⟨⟨l⟩⟩ : ByteArray).size 0 e
    rw [bs_size] at hge
    have hcells : Lib.bytesCells w e ⟨⟨l⟩⟩ = (l.map (fun c : UInt8 => Value.int .u8 c.toNat) ++ List.replicate (grownCap w l.length 0 e - l.length) (Value.int .u8 0)).toArray := by
      unfold Lib.bytesCells
      rw [bs_size]
      apply Array.ext'
      simp
    have hsz : (Lib.bytesCells w e ⟨⟨l⟩⟩).size = grownCap w l.length 0 e := by rw [hcells]; simp; omega
    rw [hsz, hcells] at hr
    have hvs : VRs G H.next E (l.map fun c : UInt8 => AV.int .u8 c.toNat) (l.map fun c : UInt8 => Value.int .u8 c.toNat) := by
      refine VRs.of_get (by simp) (fun j v hj => ?_)
      rw [List.getElem?_map] at hj ⊢
      cases hq : l[j]? with
      | none => simp [hq] at hj
      | some c => simp [hq] at hj; subst hj; exact ⟨_, rfl, rfl⟩
    have hnew := (h.drew).new (l.map fun c : UInt8 => AV.int .u8 c.toNat) (l.map fun c : UInt8 => Value.int .u8 c.toNat) (List.replicate (grownCap w l.length 0 e - l.length) (Value.int .u8 0)) hvs (grownCap w l.length 0 e) (by simpa using hge) (by simp; omega) e (grownCap w l.length 0 e, grownCap w l.length 0 e + 1) (.inl (Nat.le_refl _))
    refine ⟨_, _, _, .inl (by simp only [execOp, hop, show a.eval x = _ from hv, Sem.run_bind, hr, Result.andThen_ok, Sem.run_pure]; rfl), ⟨by show H.next < H.next + 1; omega, _, _, rfl, by rw [bs_size]; exact hge, (fun k hk => by cases hk), (fun hp => ?_)⟩, by show H.next ≤ H.next + 1; omega, ext_upd _ _ _, hnew⟩
    rw [upd_same]
    refine ⟨rfl, ?_⟩
    rw [bs_size]
    simp
  · cases hs

end
end Go.Am
