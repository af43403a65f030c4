/- A range over a function: its record, its rounds, its end; how the small machine's yield is the model's. -/
import Derived.Test.YtdgkaachkodimaaDoorAmCode
import Derived.RangeFuncRecord
set_option linter.unusedVariables false
set_option linter.unusedSimpArgs false
namespace Go.Am
open Go.RowKit
variable {G : Nat → Nat} {P : Program}
section
variable {B : Prot} {w0 : Base} {w : World} {E : Nat → Ent} {H : AHeap}
/-- A number that is nobody's. -/
theorem HRel.bumpE (h : HRel G B w0 E H w) {ent : Ent} (hg : ent.g < w.heap.size) : HRel G B w0 (upd E H.next ent) (H.bump 1) w := by
  have hE : Ext H.next E (upd E H.next ent) := ext_upd _ _ _
  have hgE : ∀ c, c < H.next → upd E H.next ent c = E c := fun c hc => upd_ne _ _ _ (by omega)
  have rlt : ∀ c f cs, H.row c = some (f, cs) → c < H.next := fun c f cs hc => (h.row c f cs hc).lt
  refine ⟨h.below, h.size, ?_, ?_, ?_, ?_, ?_, ?_, ?_, ⟨Nat.le_succ_of_le h.fix.1, h.fix.2.trans hE h.fix.1⟩, h.typ1 hE (TK.refl _)⟩
  · intro c f cs hc
    exact (h.row c f cs hc).mono (Nat.le_succ _) hE (fun _ => ⟨rfl, rfl⟩)
  · intro c hc
    have hc : c < H.next + 1 := hc
    by_cases e : c = H.next
    · subst e; rw [upd_same]; exact hg
    · rw [hgE c (by omega)]; exact h.glt c (by omega)
  · intro c f cs d f' cs' hc hd o1 o2 hne
    rw [hgE c (rlt c f cs hc), hgE d (rlt d f' cs' hd)]
    exact h.sep _ _ _ _ _ _ hc hd o1 o2 hne
  · intro c hc
    have hc : H.next + 1 ≤ c := hc
    exact h.fresh c (by omega)
  · intro c f cs hc
    have := h.famlt c f cs hc
    show f < H.next + 1
    omega
  · intro m o hm ho
    obtain ⟨k1, k2, k3, x, k4, k5⟩ := h.obj m o hm ho
    rw [hgE m k1]
    exact ⟨Nat.lt_succ_of_lt k1, k2, k3, x, k4, k5.mono (Nat.le_succ _) hE⟩
  · intro m o m' o' hm hm' ho ho' w1 w2 hne
    have l1 := (h.obj m o hm ho).1
    have l2 := (h.obj m' o' hm' ho').1
    rw [hgE m l1, hgE m' l2]
    exact h.sepm m o m' o' hm hm' ho ho' w1 w2 hne
theorem HRel.repin (h : HRel G B w0 E H w) {n : Nat} {E0 : Nat → Ent} (hn : n ≤ H.next) (hE : Ext n E0 E) : HRel G B ⟨w0.w, n, E0⟩ E H w :=
  ⟨h.below, h.size, h.row, h.glt, h.sep, h.fresh, h.famlt, h.obj, h.sepm, ⟨hn, hE⟩, h.typ⟩
theorem HRel.unpin {n : Nat} {E0 : Nat → Ent} (h : HRel G B ⟨w0.w, n, E0⟩ E H w) (h0 : w0.n ≤ n) (k : Ext w0.n w0.E E0) : HRel G B w0 E H w :=
  ⟨h.below, h.size, h.row, h.glt, h.sep, h.fresh, h.famlt, h.obj, h.sepm, ⟨Nat.le_trans h0 h.fix.1, k.trans h.fix.2 h0⟩, h.typ⟩
/-- What is to stay turns. -/
theorem HRel.turn {l : Nat} {x : Obj} (h : HRel G B w0 E H w) (hl : B l = some x) (hl0 : w0.heap.size ≤ l) (hx : NoCells x) (x' : Obj) : HRel G (B.put l x') w0 E H (w.putObj l x') := by
  have hat := h.below.block l _ hl
  have hlt : l < w.heap.size := (Array.getElem?_eq_some_iff.1 hat).1
  have out : ∀ g, g ≠ l → B.put l x' g = B g := fun g hg => by unfold Prot.put; rw [if_neg hg]
  have oth : ∀ k, k ≠ l → (w.putObj l x').heap[k]? = w.heap[k]? := fun k hk => World.putObj_heap_other hk
  have keep : Keep (B.put l x') w0 (w.putObj l x') := by
    refine ⟨h.below.os, h.below.tape, h.below.output, by rw [World.putObj_size]; exact h.below.size, fun g o hg => ?_⟩
    by_cases e : g = l
    · subst e
      unfold Prot.put at hg
      rw [if_pos rfl] at hg
      simp only [Option.some.injEq] at hg
      subst hg
      exact World.putObj_heap_same hlt
    · rw [out g e] at hg
      rw [oth g e]; exact h.below.block g o hg
  refine ⟨keep, fun g hg => keep.lt hg, ?_, fun b hb => by rw [World.putObj_size]; exact h.glt b hb, h.sep, h.fresh, h.famlt, ?_, h.sepm, h.fix, h.typ0 (Ext.refl _ _) (TK.other (g := l) (fun cs t fz hc => hx cs t fz (by rw [hat] at hc; exact Option.some.inj hc)) oth)⟩
  · intro b f cs hb
    have hr := h.row b f cs hb
    have ne : (E b).g ≠ l := by
      intro e
      cases ho : (H.fam f).isSome with
      | false => have := (hr.ro ho).2; omega
      | true => have := (hr.own ho).1; rw [e, hl] at this; cases this
    have hc : ∀ i, (w.putObj l x').cell? ⟨(E b).g, i, none⟩ = w.cell? ⟨(E b).g, i, none⟩ := fun i => World.cell?_of_block (oth _ ne)
    have hf : ∀ i, (w.putObj l x').frozen? ⟨(E b).g, i, none⟩ = w.frozen? ⟨(E b).g, i, none⟩ := fun i => World.frozen?_of_block (oth _ ne)
    refine ⟨hr.lt, ?_, ?_, ?_⟩
    · intro i v hi
      obtain ⟨u, h1, h2⟩ := hr.cell i v hi
      exact ⟨u, by rw [hc]; exact h1, h2⟩
    · rw [out _ ne]; exact hr.ro
    · intro ho
      obtain ⟨h1, h2, h3⟩ := hr.own ho
      rw [out _ ne]
      exact ⟨h1, h2, fun i hi => by rw [hc, hf]; exact h3 i hi⟩
  · intro m o hm ho
    obtain ⟨k1, k2, k3, ob, k4, k5⟩ := h.obj m o hm ho
    have ne : (E m).g ≠ l := by
      intro e
      cases hw : o.own with
      | true => have := k2 hw; rw [e, hl] at this; cases this
      | false => have := (k3 hw).2; omega
    rw [out _ ne]
    exact ⟨k1, k2, k3, ob, by rw [oth _ ne]; exact k4, k5⟩
/-- A range over a function begins. -/
theorem HRel.enter (h : HRel G B w0 E H w) (r : Obj) : ∃ E1, HRel G (B.put (w.heap.size + 1) r) ⟨w0.w, H.next + 2, E1⟩ E1 H.newLoop ((w.alloc (.deferred (some []))).alloc r) ∧ Ext H.next E E1 ∧ (E1 H.next).g = w.heap.size ∧ (E1 (H.next + 1)).g = w.heap.size + 1 := by
  have h1 := h.newObj (o := .dq true) rfl rfl (x := .deferred (some [])) ⟨rfl, rfl⟩
  have hs : (w.alloc (.deferred (some []))).heap.size = w.heap.size + 1 := by show (w.heap.push _).size = _; simp
  have h2 := h1.guard r
  rw [hs] at h2
  have hs2 : ((w.alloc (.deferred (some []))).alloc r).heap.size = w.heap.size + 2 := by show (Array.push _ _).size = _; rw [Array.size_push, hs]
  have h3 := h2.bumpE (ent := ⟨w.heap.size + 1, 0, 0⟩) (by show w.heap.size + 1 < ((w.alloc (.deferred (some []))).alloc r).heap.size; omega)
  have hn : (H.newObj (.dq true)).next = H.next + 1 := rfl
  rw [hn] at h3
  have eq : (H.newObj (.dq true)).bump 1 = H.newLoop := rfl
  rw [eq] at h3
  refine ⟨_, h3.repin (Nat.le_refl _) (Ext.refl _ _), ?_, ?_, ?_⟩
  · intro c hc
    rw [upd_ne _ _ _ (by omega), upd_ne _ _ _ (by omega)]
  · rw [upd_ne _ _ _ (by omega), upd_same]
  · rw [upd_same]
/-- It ends. -/
theorem HRel.leave {l : Nat} {x : Obj} (h : HRel G (B.put l x) w0 E H w) (hB : B l = none) (hl0 : w0.heap.size ≤ l) (hx : NoCells x) (x' : Obj) : HRel G B w0 E H (w.putObj l x') := by
  have hp : B.put l x l = some x := by unfold Prot.put; rw [if_pos rfl]
  have h1 := h.turn hp hl0 hx x'
  have h2 := h1.less (g := l) (ob := x') (by unfold Prot.put; rw [if_pos rfl]) hl0
  have e : ((B.put l x).put l x').del l = B := by
    funext i
    unfold Prot.del Prot.put
    by_cases e : i = l
    · subst e; rw [if_pos rfl]; exact hB.symm
    · rw [if_neg e, if_neg e, if_neg e]
  rw [e] at h2
  exact h2
/-- A mark is come to. -/
theorem HRel.take (h : HRel G B w0 E H w) {b : Nat} (hb : H.blk b = some (.dq true)) : (Instr.takeDeferred (E b).g).run P w = .ok [] (w.putObj (E b).g (.deferred none)) ∧ HRel G B w0 E (H.setObj b (.dq false)) (w.putObj (E b).g (.deferred none)) := by
  obtain ⟨k1, k2, k3, x, k4, k5⟩ := h.obj b _ hb rfl
  obtain ⟨k6, rfl⟩ := k5
  exact ⟨run_takeDeferred k4, h.setObj hb rfl rfl rfl rfl (x2 := .deferred none) ⟨k6, rfl⟩⟩
end
def toExit : AExit → Exit
  | .normal => .normal
  | .exit id => .exit id
  | .ret => .ret
/-- What code leaves: one of several ends. -/
def Left (G : Nat → Nat) (B : Prot) (w0 : Base) (nt : Nat) (E : Nat → Ent) (s : AState) (R : AExit → AState → Prop) : Exit → Act → World → Prop :=
  fun e a' w' => ∃ x s', R x s' ∧ e = toExit x ∧ ∃ E', Ext s.2.next E E' ∧ s.2.next ≤ s'.2.next ∧ StR G B w0 nt E' s' a' w'
theorem Left.from_ {B : Prot} {w0 : Base} {nt : Nat} {E E1 : Nat → Ent} {s s1 : AState} {R R' : AExit → AState → Prop} (h : Ext s.2.next E E1) (hn : s.2.next ≤ s1.2.next) (hR : ∀ x s', R x s' → R' x s') {e : Exit} {a : Act} {w : World} (k : Left G B w0 nt E1 s1 R e a w) : Left G B w0 nt E s R' e a w := by
  obtain ⟨x, s', k0, k1, E', k2, k3, k4⟩ := k
  exact ⟨x, s', hR _ _ k0, k1, E', h.trans k2 hn, Nat.le_trans hn k3, k4⟩
theorem BackF.repin {S : Prot} {w0 : Base} {E : Nat → Ent} {H : AHeap} {w : World} {s : Sem Next} {R : AV → AHeap → Prop} (h : BackF P G S w0 E H w s R) {n : Nat} {E0 : Nat → Ent} (hn : n ≤ H.next) (hE : Ext n E0 E) : BackF P G S ⟨w0.w, n, E0⟩ E H w s R := by
  rcases h with ⟨v, H', u, w', E', h1, h2, h3, h4, h5, h6⟩ | ⟨f, us, h1, h2⟩
  · exact .inl ⟨v, H', u, w', E', h1, h2, h3, h4, h5, h6.repin (Nat.le_trans hn h4) (hE.trans h5 hn)⟩
  · exact .inr ⟨f, us, h1, Calls.mono h2 fun e w' ⟨v, H', u, E', k1, k2, k3, k4, k5, k6⟩ => ⟨v, H', u, E', k1, k2, k3, k4, k5, k6.repin (Nat.le_trans hn k4) (hE.trans k5 hn)⟩⟩
/-- The parameters of a round. -/
theorem putAll_env {n : Nat} {E : Nat → Ent} : ∀ (ps : List Nat) (args : List AV) (us : List Value) (tmps : Array Value) (e : Env), VRs G n E args us → args.length = ps.length → (∀ p ∈ ps, p < tmps.size) → (∀ i, i ≠ dfrT → VR G n E (e i) (tmps.getD i Go.undef)) →
    (∀ i, i ≠ dfrT → VR G n E (putAll e ps args i) (((ps.zip us).foldl (fun t (q : Nat × Value) => t.setIfInBounds q.1 q.2) tmps).getD i Go.undef)) ∧ ((ps.zip us).foldl (fun t (q : Nat × Value) => t.setIfInBounds q.1 q.2) tmps).size = tmps.size
  | [], args, us, tmps, e, hv, hl, hp, he => by
    cases args with
    | nil => exact ⟨he, rfl⟩
    | cons a as => simp at hl
  | p :: ps, [], us, tmps, e, hv, hl, hp, he => by simp at hl
  | p :: ps, a :: args, us, tmps, e, hv, hl, hp, he => by
    obtain ⟨u, r, rfl, h1, h2⟩ := hv
    have hpt : p < tmps.size := hp p (by simp)
    have := putAll_env ps args r (tmps.setIfInBounds p u) (upd e p a) h2 (by simpa using hl) (fun q hq => by rw [Array.size_setIfInBounds]; exact hp q (by simp [hq])) (fun i hi => by
      unfold upd
      by_cases e1 : i = p
      · subst e1
        rw [if_pos rfl]
        simp [Array.getD, hpt]
        exact h1
      · rw [if_neg e1]
        have e2 : (tmps.setIfInBounds p u).getD i Go.undef = tmps.getD i Go.undef := by
          simp [Array.getD_eq_getD_getElem?, Array.getElem?_setIfInBounds_ne (Ne.symm e1)]
        rw [e2]; exact he i hi)
    simp only [List.zip_cons_cons, List.foldl_cons, putAll]
    refine ⟨this.1, ?_⟩
    rw [this.2, Array.size_setIfInBounds]
theorem roundF_some {A Bd : AState → Option (AExit × AState)} {ps : List Nat} {e : Env} {vs : List AV} {H : AHeap} {v : AV} {H' : AHeap} (hr : roundF A Bd ps e vs H = some (v, H')) :
    vs.length = ps.length ∧ ∃ s1 s2, A (upd (putAll e ps vs) dfrT .undef, H) = some (.normal, s1) ∧ Bd s1 = some (.normal, s2) ∧ v = .bool true ∧ H' = s2.2 := by
  unfold roundF at hr
  split at hr
  · rename_i hl
    cases h1 : A (upd (putAll e ps vs) dfrT .undef, H) with
    | none => rw [h1] at hr; cases hr
    | some p =>
      obtain ⟨x, s1⟩ := p
      rw [h1] at hr
      cases x with
      | normal =>
        simp only at hr
        cases h2 : Bd s1 with
        | none => rw [h2] at hr; cases hr
        | some q =>
          obtain ⟨y, s2⟩ := q
          rw [h2] at hr
          cases y with
          | normal =>
            simp only [Option.some.injEq, Prod.mk.injEq] at hr
            exact ⟨hl, s1, s2, rfl, h2, hr.1.symm, hr.2.symm⟩
          | exit i => cases hr
          | ret => cases hr
      | exit i => cases hr
      | ret => cases hr
  · cases hr
/-- Calls, and a yield. -/
theorem yldC_ok {B : Prot} {w0 : Base} {CO : Ora → CallF} (hC : CallOk P G B w0 CO) (hy : ∀ f, G f ≠ yldF) {A Bd : Ora → AState → Option (AExit × AState)} {asg body : Code} {nt l y n1 : Nat} {E1 : Nat → Ent} {ps : Array Tmp} {tmps : Array Value} {e0 : Env} {fid d : Nat}
    (hB : B l = none) (hl0 : w0.heap.size ≤ l) (hyn : y < n1) (hyl : (E1 y).g = l) (hn0 : w0.n ≤ n1) (hE0 : Ext w0.n w0.E E1)
    (hcap : nt ≤ dfrT) (hnt : nt ≤ tmps.size) (hps : ∀ p ∈ ps.toList, p < nt) (henv : ∀ i, i ≠ dfrT → VR G n1 E1 (e0 i) (tmps.getD i Go.undef))
    (hA : ∀ S, Sub B S → ∀ E s a w ω, StR G S w0 nt E s a w → (∀ ω', Agree ω ω' s.2.next → ∃ x s', A ω' s = some (x, s')) → asg.wpIn (FR (some l)) 0 P (Left G S w0 nt E s fun x s' => ∃ ω', Agree ω ω' s.2.next ∧ A ω' s = some (x, s')) a w)
    (hBd : ∀ S, Sub B S → ∀ E s a w ω, StR G S w0 nt E s a w → (∀ ω', Agree ω ω' s.2.next → ∃ x s', Bd ω' s = some (x, s')) → body.wpIn (FR (some l)) 0 P (Left G S w0 nt E s fun x s' => ∃ ω', Agree ω ω' s.2.next ∧ Bd ω' s = some (x, s')) a w)
    (prA : ∀ ω ω' N, Agree ω ω' N → ∀ s x t, A ω s = some (x, t) → s.2.next ≤ t.2.next ∧ (t.2.next ≤ N → A ω' s = some (x, t)))
    (prB : ∀ ω ω' N, Agree ω ω' N → ∀ s x t, Bd ω s = some (x, t) → s.2.next ≤ t.2.next ∧ (t.2.next ≤ N → Bd ω' s = some (x, t))) :
    CallOk P G (B.put l (.loop { state := .ready, pending := none, fn := fid, tmps := tmps, params := ps, assign := asg, body := body, defers := d })) ⟨w0.w, n1, E1⟩ (fun ω => yldC (CO ω) y (roundF (A ω) (Bd ω) ps.toList e0)) := by
  have other : ∀ ω f args H, f ≠ yldF → yldC (CO ω) y (roundF (A ω) (Bd ω) ps.toList e0) f args H = CO ω f args H := fun ω f args H hf => by unfold yldC; rw [if_neg hf]
  have sub0 : ∀ x, Sub B (B.put l x) := fun x g o hg => by
    unfold Prot.put
    by_cases e : g = l
    · subst e; rw [hB] at hg; cases hg
    · rw [if_neg e]; exact hg
  refine ⟨?_, ?_, ?_, ?_, ?_⟩
  · intro f args H ω hf S hS E w us hr hv
    have h1 := hC.call f args H ω (fun ω' hag => by have := hf ω' hag; rw [other _ _ _ _ (hy f)] at this; exact this) S ((sub0 _).trans hS) E w us (hr.unpin hn0 hE0) hv
    have h2 := h1.repin hr.fix.1 hr.fix.2
    have e : (fun v H' => ∃ ω', Agree ω ω' H.next ∧ yldC (CO ω') y (roundF (A ω') (Bd ω') ps.toList e0) (G f) args H = some (v, H')) = (fun v H' => ∃ ω', Agree ω ω' H.next ∧ CO ω' (G f) args H = some (v, H')) := by
      funext v H'
      simp only [other _ _ _ _ (hy f)]
    rw [e]; exact h2
  · intro b args H ω hf S hS E w us hr hv hb
    -- what the machine's yield is
    have run : ∀ ω', yldC (CO ω') y (roundF (A ω') (Bd ω') ps.toList e0) yldF (.yld b :: args) H = if b = y then roundF (A ω') (Bd ω') ps.toList e0 args H else none := fun ω' => by unfold yldC; rw [if_pos rfl]
    have hby : b = y := by
      obtain ⟨v, H', h⟩ := hf ω .refl
      rw [run] at h
      split at h
      · assumption
      · cases h
    subst hby
    simp only [run, if_true] at hf ⊢
    have hEb : (E b).g = l := by rw [hr.fix.2 b hyn]; exact hyl
    rw [hEb]
    have hSl := hS l (.loop { state := .ready, pending := none, fn := fid, tmps := tmps, params := ps, assign := asg, body := body, defers := d }) (by unfold Prot.put; rw [if_pos rfl])
    have hat := hr.below.block l _ hSl
    obtain ⟨v0, H0, h0⟩ := hf ω .refl
    obtain ⟨hlen, _⟩ := roundF_some h0
    have hus : us.length = ps.size := by rw [hv.length, hlen]; simp
    have hsz : us.toArray.size = ps.size := by simpa using hus
    refine ⟨_, _, _, _, run_yield hat hsz, ?_⟩
    have hr0 := hr.unpin hn0 hE0
    have hSB : Sub B S := (sub0 _).trans hS
    -- the round's first state
    have env1 := putAll_env (G := G) (n := H.next) (E := E) ps.toList args us tmps e0 hv hlen (fun p hp => Nat.lt_of_lt_of_le (hps p hp) hnt) (fun i hi => (henv i hi).mono hr.fix.1 hr.fix.2)
    have fold : (ps.zip us.toArray).foldl (fun tmps (x : Nat × Value) => match x with | (t, a) => tmps.setIfInBounds t a) tmps = (ps.toList.zip us).foldl (fun t (q : Nat × Value) => t.setIfInBounds q.1 q.2) tmps := by
      rw [← Array.foldl_toList, Array.toList_zip]
    rw [fold]
    obtain ⟨tm1, htm1⟩ : ∃ tm1, (ps.toList.zip us).foldl (fun t (q : Nat × Value) => t.setIfInBounds q.1 q.2) tmps = tm1 := ⟨_, rfl⟩
    rw [htm1] at env1 ⊢
    obtain ⟨env1, size1⟩ := env1
    obtain ⟨e1, he1⟩ : ∃ e1, upd (putAll e0 ps.toList args) dfrT .undef = e1 := ⟨_, rfl⟩
    have st1 : StR G S w0 nt E (e1, H) { tmps := tm1, defers := [] } w := by
      refine ⟨fun i hi => ?_, hr0, hcap, by show nt ≤ tm1.size; omega, ?_⟩
      · show VR G H.next E (e1 i) _
        rw [← he1, upd_ne _ _ _ hi]; exact env1 i hi
      · show DefR G H.next E (e1 dfrT) []
        rw [← he1, upd_same]; rfl
    have each : ∀ ω', Agree ω ω' H.next → ∃ s1 s2, A ω' (e1, H) = some (.normal, s1) ∧ Bd ω' s1 = some (.normal, s2) ∧ roundF (A ω') (Bd ω') ps.toList e0 args H = some (.bool true, s2.2) := by
      intro ω' hag
      obtain ⟨v, H', h⟩ := hf ω' hag
      obtain ⟨_, s1, s2, k1, k2, k3, k4⟩ := roundF_some h
      rw [he1] at k1
      exact ⟨s1, s2, k1, k2, by rw [h, k3, k4]⟩
    refine roundIn_of_wpIn trivial ?_
    refine wpIn_mono (hA S hSB E (e1, H) _ w ω st1 (fun ω' hag => by obtain ⟨s1, s2, k1, _⟩ := each ω' hag; exact ⟨_, s1, k1⟩)) ?_
    rintro e a1 w1 ⟨x1, s1, ⟨ω1, hag1, h1⟩, rfl, E2, q1, q2, q3⟩
    have q2 : H.next ≤ s1.2.next := q2
    obtain ⟨s1', s2, k1, k2, k3⟩ := each ω1 hag1
    rw [h1] at k1
    simp only [Option.some.injEq, Prod.mk.injEq] at k1
    obtain ⟨rfl, rfl⟩ := k1
    have hat1 := q3.heap.below.block l _ hSl
    refine ⟨_, run_beginRound hat1 rfl, ?_⟩
    have hb1 := q3.heap.turn hSl hl0 (by intro c e f; simp) (.loop { state := .busy, pending := none, fn := fid, tmps := tmps, params := ps, assign := asg, body := body, defers := d })
    have sub1 : Sub B (S.put l (.loop { state := .busy, pending := none, fn := fid, tmps := tmps, params := ps, assign := asg, body := body, defers := d })) := fun g o hg => by
      unfold Prot.put
      by_cases e : g = l
      · subst e; rw [hB] at hg; cases hg
      · rw [if_neg e]; exact hSB g o hg
    refine wpIn_mono (hBd _ sub1 E2 s1 a1 _ ω1 ⟨q3.env, hb1, q3.cap, q3.nt, q3.defers⟩ (fun ω2 hag2 => ?_)) ?_
    · have p1 : Agree ω ω2 H.next := hag1.trans (hag2.le q2)
      obtain ⟨s1', s2', j1, j2, _⟩ := each ω2 p1
      have := (prA ω1 ω2 s1.2.next hag2 _ _ _ h1).2 (Nat.le_refl _)
      rw [this] at j1
      simp only [Option.some.injEq, Prod.mk.injEq, true_and] at j1
      subst j1
      exact ⟨_, _, j2⟩
    · rintro e a2 w2 ⟨x2, s3, ⟨ω2, hag2, h2⟩, rfl, E3, r1, r2, r3⟩
      have p1 : Agree ω ω2 H.next := hag1.trans (hag2.le q2)
      obtain ⟨s1', s2', j1, j2, j3⟩ := each ω2 p1
      have := (prA ω1 ω2 s1.2.next hag2 _ _ _ h1).2 (Nat.le_refl _)
      rw [this] at j1
      simp only [Option.some.injEq, Prod.mk.injEq, true_and] at j1
      subst j1
      rw [h2] at j2
      simp only [Option.some.injEq, Prod.mk.injEq] at j2
      obtain ⟨rfl, rfl⟩ := j2
      have hp2 : (S.put l (.loop { state := .busy, pending := none, fn := fid, tmps := tmps, params := ps, assign := asg, body := body, defers := d })) l = some (.loop { state := .busy, pending := none, fn := fid, tmps := tmps, params := ps, assign := asg, body := body, defers := d }) := by unfold Prot.put; rw [if_pos rfl]
      have hat2 := r3.heap.below.block l _ hp2
      refine ⟨_, _, run_endRound none hat2, ?_⟩
      have hb2 := r3.heap.turn hp2 hl0 (by intro c e f; simp) (.loop { state := .ready, pending := none, fn := fid, tmps := tmps, params := ps, assign := asg, body := body, defers := d })
      have back : (S.put l (.loop { state := .busy, pending := none, fn := fid, tmps := tmps, params := ps, assign := asg, body := body, defers := d })).put l (.loop { state := .ready, pending := none, fn := fid, tmps := tmps, params := ps, assign := asg, body := body, defers := d }) = S := by
        funext i
        unfold Prot.put
        by_cases e : i = l
        · subst e; rw [if_pos rfl]; exact hSl.symm
        · rw [if_neg e, if_neg e]
      rw [back] at hb2
      have n3 : H.next ≤ s3.2.next := Nat.le_trans q2 r2
      have x3 : Ext H.next E E3 := q1.trans r1 q2
      exact ⟨.bool true, s3.2, _, E3, ⟨ω2, p1, j3⟩, rfl, rfl, n3, x3, hb2.repin (Nat.le_trans hr.fix.1 n3) (hr.fix.2.trans x3 hr.fix.1)⟩
  · intro ω args H v H' h
    exact hC.rng ω args H v H' (by rw [other _ _ _ _ (by simp [rngF, yldF])] at h; exact h)
  · intro ω args H v H' h
    exact hC.nxt ω args H v H' (by rw [other _ _ _ _ (by simp [nxtF, yldF])] at h; exact h)
  · intro ω ω' N hag
    exact yldC_pr (hC.pr ω ω' N hag) (roundF_pr (prA ω ω' N hag) (prB ω ω' N hag))
end Go.Am
