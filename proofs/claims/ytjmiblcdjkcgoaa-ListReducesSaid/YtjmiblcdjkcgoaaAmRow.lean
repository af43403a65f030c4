/- A row's statement out of what the small machine's call gives. -/
import Derived.Test.YtjmiblcdjkcgoaaAmTop
set_option linter.unusedVariables false
set_option linter.unusedSimpArgs false
namespace Go.Am
open Go.RowKit Go.ChangeShapes

def Sh.isAgg : Sh → Bool
  | .nilA | .consA _ _ => true
  | _ => false

/-- An argument of a shape. -/
def GoodV (H : AHeap) (s : Sh) (a : AV) : Prop := if s.isAgg then ∃ cs, a = .agg cs ∧ Good H s cs else Good H s [a]
def Goods (H : AHeap) : List Sh → List AV → Prop
  | [], as => as = []
  | s :: ss, as => ∃ a r, as = a :: r ∧ GoodV H s a ∧ Goods H ss r

theorem GoodV.fr {H H' : AHeap} (hw : WF H) (k : Fr H H') {s : Sh} {a : AV} (h : GoodV H s a) : GoodV H' s a := by
  unfold GoodV at h ⊢
  split
  · rename_i e; rw [if_pos e] at h; obtain ⟨cs, h1, h2⟩ := h; exact ⟨cs, h1, h2.fr hw k⟩
  · rename_i e; rw [if_neg e] at h; exact h.fr hw k

section
variable {P : Program} {G : Nat → Nat} {W : World}

theorem cell_slice {r : Reach} {base : Nat} {t : TypeId} {a : Addr} {l c : Nat} (h : Cell.okWide P W r base t (.slice (some a) l c)) : 0 < W.heap.size := by
  unfold Cell.okWide at h
  split at h <;> simp_all [Cell.ok]
  split at h <;> simp_all
  obtain ⟨_, _, _, _, row, cells, hs, _⟩ := h
  unfold World.shape? at hs
  cases hh : W.heap[a.block]? with
  | none => simp_all
  | some o => have := (Array.getElem?_eq_some_iff.1 hh).1; omega

theorem okWide_slices {r : Reach} {base : Nat} {t : TypeId} {v : Value} (h : Value.okWide P W r base t v) : 0 < W.heap.size ∨ ∀ u ∈ v.cells.toList, ∀ a l c, u ≠ .slice (some a) l c := by
  by_cases hp : 0 < W.heap.size
  · exact .inl hp
  right
  intro u hu a l c e
  subst e
  apply hp
  unfold Value.okWide at h
  split at h
  · obtain ⟨cs, rfl, _, ts, _, _, h⟩ := h
    obtain ⟨i, hi⟩ := List.getElem?_of_mem hu
    obtain ⟨ty, _, h2⟩ := h i _ (by simpa [Value.cells] using hi)
    exact cell_slice h2
  · obtain ⟨cs, rfl, _, ts, _, _, h⟩ := h
    obtain ⟨i, hi⟩ := List.getElem?_of_mem hu
    obtain ⟨ty, _, h2⟩ := h i _ (by simpa [Value.cells] using hi)
    exact cell_slice h2
  · cases v with
    | agg cs =>
      unfold Cell.okWide at h
      split at h <;> simp_all [Cell.ok]
    | slice p n m => simp [Value.cells] at hu; obtain ⟨rfl, rfl, rfl⟩ := hu; exact cell_slice h
    | _ => simp [Value.cells] at hu

theorem shFields_agg {sh : TypeId → Option Sh} : ∀ {l : List Field} {n : Nat} {s : Sh}, shFields sh P n l = some s → s.isAgg = true
  | [], n, s, h => by simp [shFields] at h; subst h; rfl
  | f :: l, n, s, h => by
    unfold shFields at h
    split at h
    · split at h
      · split at h
        · simp at h; subst h; rfl
        · cases h
      · cases h
    · cases h

theorem shOf_agg {n : Nat} {t : TypeId} {s : Sh} (hs : shOf P n t = some s) : (s.isAgg = true ∧ ((∃ fs, P.underlying t = some (.struct fs)) ∨ ∃ m e, P.underlying t = some (.array m e))) ∨
    (s.isAgg = false ∧ (∀ fs, P.underlying t ≠ some (.struct fs)) ∧ ∀ m e, P.underlying t ≠ some (.array m e)) := by
  cases n with
  | zero => simp [shOf] at hs
  | succ n =>
    unfold shOf at hs
    cases hu : P.underlying t with
    | none => simp [hu] at hs
    | some d =>
      rw [hu] at hs
      cases d <;> simp only [reduceCtorEq] at hs
      case bool => simp at hs; subst hs; right; simp [Sh.isAgg]
      case int => simp at hs; subst hs; right; simp [Sh.isAgg]
      case string => simp at hs; subst hs; right; simp [Sh.isAgg]
      case slice e =>
        right
        split at hs
        · split at hs
          · simp at hs; subst hs; simp [Sh.isAgg]
          · cases hs
        · cases hs
      case struct fs =>
        left
        split at hs
        · rename_i s' hf
          split at hs
          · simp at hs; subst hs; exact ⟨shFields_agg hf, .inl ⟨_, rfl⟩⟩
          · cases hs
        · cases hs
      case array m e =>
        left
        split at hs
        · split at hs
          · simp at hs; subst hs; exact ⟨by cases m <;> rfl, .inr ⟨_, _, rfl⟩⟩
          · cases hs
        · cases hs

theorem imp_arg {H : Type} {enc : TypeId × Value → H} {n : Nat} {t : TypeId} {s : Sh} {v : Value} {d : DataW H} {ps : List MemPlace} {r : Reach} {base : Nat} (hs : shOf P n t = some s) (h : DataW.Trod enc P W 0 (fun _ => true) true t v d ps)
    (hv : Value.okWide P W r base t v) {E : Nat → Ent} {K : AHeap} (hr : HRel G W.heap.size W E K W) :
    ∃ E' K' a, Ext K.next E E' ∧ Fr K K' ∧ HRel G W.heap.size W E' K' W ∧ VR G K'.next E' a v ∧ GoodV K' s a := by
  obtain ⟨fuel, h⟩ := h
  obtain ⟨E', K', as, x1, f1, r1, v1, g1⟩ := imp_trod (G := G) n t s _ fuel _ hs h (okWide_slices hv) E K hr
  have agg : s.isAgg = true → ∃ cs, v = .agg cs := by
    intro ha
    rcases shOf_agg hs with ⟨_, ⟨fs, hu⟩ | ⟨m, e, hu⟩⟩ | ⟨h1, _⟩
    · unfold Value.okWide at hv; rw [hu] at hv; obtain ⟨cs, e, _⟩ := hv; exact ⟨cs, e⟩
    · unfold Value.okWide at hv; rw [hu] at hv; obtain ⟨cs, e, _⟩ := hv; exact ⟨cs, e⟩
    · rw [h1] at ha; cases ha
  have cell : s.isAgg = false → v.cells.toList = [v] := by
    intro ha
    have hc : ∀ cs, v ≠ .agg cs := by
      rintro cs rfl
      rcases shOf_agg hs with ⟨h1, _⟩ | ⟨_, h1, h2⟩
      · rw [h1] at ha; cases ha
      · unfold Value.okWide at hv
        split at hv
        · rename_i hu; exact h1 _ hu
        · rename_i hu; exact h2 _ _ hu
        · unfold Cell.okWide at hv
          split at hv <;> simp_all [Cell.ok]
    cases v <;> first | rfl | exact absurd rfl (hc _)
  cases ha : s.isAgg with
  | true =>
    obtain ⟨cs, rfl⟩ := agg ha
    exact ⟨E', K', .agg as, x1, f1, r1, ⟨cs, rfl, v1⟩, by unfold GoodV; rw [if_pos ha]; exact ⟨as, rfl, g1⟩⟩
  | false =>
    rw [cell ha] at v1
    obtain ⟨a, rfl⟩ : ∃ a, as = [a] := by
      cases as with
      | nil => have v1 : [v] = [] := v1; cases v1
      | cons a as =>
        obtain ⟨u, r, e, _, h3⟩ := v1
        cases e
        cases as with
        | nil => exact ⟨a, rfl⟩
        | cons b bs => obtain ⟨_, _, e, _⟩ := h3; cases e
    obtain ⟨u, r, e, h2, _⟩ := v1
    cases e
    exact ⟨E', K', a, x1, f1, r1, h2, by unfold GoodV; rw [if_neg (by rw [ha]; simp)]; exact g1⟩

def shsOf (P : Program) (n : Nat) : List TypeId → Option (List Sh)
  | [] => some []
  | t :: ts => match shOf P n t, shsOf P n ts with | some s, some ss => some (s :: ss) | _, _ => none

theorem imp_args {H : Type} {enc : TypeId × Value → H} {n : Nat} {r : Reach} {base : Nat} : ∀ {ts : List TypeId} {vs : List Value} {ds : List (DataW H)} {ps : List MemPlace} {ss : List Sh}, shsOf P n ts = some ss → DataW.TrodAll enc P W 0 (fun _ => true) true ts vs ds ps →
    (∀ (j : Nat) t v, ts[j]? = some t → vs[j]? = some v → Value.okWide P W r base t v) → ∀ {E : Nat → Ent} {K : AHeap}, HRel G W.heap.size W E K W →
    ∃ E' K' as, Ext K.next E E' ∧ Fr K K' ∧ HRel G W.heap.size W E' K' W ∧ VRs G K'.next E' as vs ∧ Goods K' ss as
  | [], [], [], ps, ss, hs, h, _, E, K, hr => by simp [shsOf] at hs; subst hs; exact ⟨E, K, [], Ext.refl _ _, .refl hr.wf, hr, rfl, rfl⟩
  | t :: ts, v :: vs, d :: ds, ps, ss, hs, ⟨p, q, h1, h2, e⟩, hv, E, K, hr => by
    unfold shsOf at hs
    cases k1 : shOf P n t with
    | none => simp [k1] at hs
    | some s =>
      cases k2 : shsOf P n ts with
      | none => simp [k1, k2] at hs
      | some ss' =>
        simp [k1, k2] at hs; subst hs
        obtain ⟨E1, K1, a, x1, f1, r1, v1, g1⟩ := imp_arg k1 h1 (hv 0 t v rfl rfl) hr
        obtain ⟨E2, K2, as, x2, f2, r2, v2, g2⟩ := imp_args k2 h2 (fun j t v h3 h4 => hv (j + 1) t v (by simpa using h3) (by simpa using h4)) r1
        exact ⟨E2, K2, a :: as, x1.trans x2 f1.next, f1.trans f2, r2, ⟨v, vs, rfl, v1.mono f2.next x2, v2⟩, a, as, rfl, g1.fr f1.wf f2, g2⟩

/-- The model's call, out of the small machine's. -/
theorem model_calls {T : Tab} (L : Link P G T.fn T.prim) {f : Nat} {ir : AFunc} (hF : T.fn (G f) = some ir) (hp : T.prim (G f) = none) {args : List AV} {K : AHeap} {Q : AV → AHeap → Prop} (h : Calls T (G f) args K Q)
    {B : Nat} {w0 w : World} {E : Nat → Ent} {us : List Value} (hr : HRel G B w0 E K w) (hv : VRs G K.next E args us) :
    _root_.Go.Calls P f us.toArray w fun e w' => ∃ v K' u E', e = .returned u ∧ VR G K'.next E' v u ∧ Q v K' ∧ HRel G B w0 E' K' w' := by
  obtain ⟨n, v, K', h1, h2⟩ := h
  obtain ⟨fn, hfn, hcf⟩ := L.fn f ir hF
  have henter : (callFunc f us.toArray).run P w = .ok (.enter f us.toArray) w := by
    unfold compileFn at hcf
    cases hb : fn.body with
    | none => simp [hb] at hcf
    | some c =>
      simp only [hb] at hcf
      split at hcf
      · split at hcf
        · cases hcf
        · rename_i hname
          simp [callFunc, hfn, hb, hname]
      · cases hcf
  rcases acall_sound L n f args K v K' h1 B w0 E w us hr hv with ⟨u, w', E', q1, _⟩ | ⟨f', us', q1, q2⟩
  · rw [henter] at q1; simp at q1
  · rw [henter] at q1
    simp at q1
    obtain ⟨rfl, rfl⟩ := q1
    exact q2.mono fun e w' ⟨u, E', e1, e2, _, _, e3⟩ => ⟨v, K', u, E', e1, e2, h2, e3⟩

theorem stays_all {H : Type} {enc : TypeId × Value → H} (hl : laidOutB P = true) {W' : World} (hb : Below W.heap.size W W') {sp : Nat → Bool} : ∀ {ts : List TypeId} {vs : List Value} {ds : List (DataW H)} {ps : List MemPlace},
    (∀ t ∈ ts, P.readableRec t = true ∧ t < P.types.size) → DataW.TrodAll enc P W 0 (fun _ => true) true ts vs ds ps → (∀ p ∈ ps, p.block < W.heap.size) → (∀ p ∈ ps, sp p.block = true) → DataW.TrodAll enc P W' 0 sp true ts vs ds ps
  | [], [], [], _, _, h, _, _ => h
  | t :: ts, v :: vs, d :: ds, ps, ht, ⟨p, q, h1, h2, e⟩, hlt, hs => by
    have hp : ∀ x ∈ p, x ∈ ps := fun x hx => by rw [e]; exact List.mem_append_left _ hx
    have hq : ∀ x ∈ q, x ∈ ps := fun x hx => by rw [e]; exact List.mem_append_right _ hx
    obtain ⟨a1, a2⟩ := ht t (by simp)
    exact ⟨p, q, WideElems.Trod_stays hl a1 a2 h1 (fun x hx => hb.same (hlt x (hp x hx))) (fun x hx => hs x (hp x hx)), stays_all hl hb (fun t ht' => ht t (by simp [ht'])) h2 (fun x hx => hlt x (hq x hx)) (fun x hx => hs x (hq x hx)), e⟩

theorem trods_len {H : Type} {enc : TypeId × Value → H} {w : World} {b : Nat} {sp : Nat → Bool} {hd : Bool} : ∀ {ts : List TypeId} {vs : List Value} {ds : List (DataW H)} {ps : List MemPlace}, DataW.TrodAll enc P w b sp hd ts vs ds ps → ds.length = ts.length
  | [], [], [], _, _ => rfl
  | _ :: _, _ :: _, _ :: _, _, ⟨_, _, _, h, _⟩ => by simp [trods_len h]

/-- THE ROW's CONTRACT, out of the small machine's. -/
theorem row_contract {T : Tab} (L : Link P G T.fn T.prim) {f : Nat} {ir : AFunc} (hF : T.fn (G f) = some ir) (hp : T.prim (G f) = none) {fn : Func} {s : ChangeSpec} {n : Nat} {ss : List Sh} {tb : TypeId}
    (hl : laidOutB P = true) (hrd : fn.params.toList.all (fun t => P.readableRec t && decide (t < P.types.size)) = true) (hss : shsOf P n fn.params.toList = some ss)
    (hvars : s.vars = []) (hrt : fn.resultTypes = #[tb]) (htb : P.underlying tb = some .bool)
    {fresh handsOn : Bool} {H : Type} {enc : TypeId × Value → H} {base : Nat} {args : Array Value} {ds gs : List (DataW H)} {before : List MemPlace}
    (hval : ∀ (j : Nat) t v, fn.params[j]? = some t → args[j]? = some v → Value.okWide P W .any base t v)
    (hW : DataW.Whole enc P fn.params.toList s.vars false W args.toList ds gs before)
    (hspec : ds.length = fn.params.toList.length → s.fn H (ds ++ []) = { results := [.lit (.bool true)], args := ds })
    (law : ∀ K as, WF K → Goods K ss as → Calls T (G f) as K fun v _ => v = .bool true) :
    _root_.Go.Calls P f args W fun e W' => ∃ v, e = .returned v ∧ s.post enc P fn false fresh handsOn false W args v W' := by
  have hW' := hW
  obtain ⟨p, q, hA, hV, rfl, hfz, hnd⟩ := hW
  obtain ⟨rfl, rfl⟩ : gs = [] ∧ q = [] := by rw [hvars] at hV; exact trodVars_none hV
  obtain ⟨E, K, as, x1, f1, r1, v1, g1⟩ := imp_args (G := G) (n := n) hss hA (fun j t v h1 h2 => hval j t v (by simpa using h1) (by simpa using h2)) HRel.empty
  have h := model_calls L hF hp (law K as f1.wf g1) r1 v1
  have ha : args.toList.toArray = args := by simp
  rw [ha] at h
  refine h.mono fun e W' ⟨v, K', u, E', e1, e2, e3, e4⟩ => ?_
  subst e3
  have e2 : u = .bool true := e2
  subst e2
  refine ⟨_, e1, ?_⟩
  have hbel := e4.below
  have hlen := trods_len hA
  have hsp := hspec hlen
  have hlt : ∀ x ∈ p, x.block < W.heap.size := fun x hx => hW'.lt x (by simpa using hx)
  have hall : ∀ t ∈ fn.params.toList, P.readableRec t = true ∧ t < P.types.size := fun t ht => by
    have := List.all_eq_true.1 hrd t ht
    simpa using this
  refine ⟨ds, [], _, [], p, [], hW', ?_, ?_, ?_, hbel.frame _, fun h => by cases h⟩
  · rw [hsp, hrt]
    exact trodAll_cons_mk (shut_bool htb _) trodAll_mk0
  · rw [hsp]
    exact stays_all hl hbel hall hA hlt (fun x hx => by simpa using hlt x hx)
  · rw [hsp, hvars]
    rfl
end
end Go.Am
