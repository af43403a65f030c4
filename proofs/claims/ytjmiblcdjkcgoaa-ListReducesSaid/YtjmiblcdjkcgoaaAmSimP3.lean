/- What the small machine's operations that do not look at the heap give, the model's operations give too: slices, texts, structs. -/
import Derived.Test.YtjmiblcdjkcgoaaAmSimP2
set_option linter.unusedVariables false
set_option linter.unusedSimpArgs false
namespace Go.Am
open Go.RowKit
variable {G : Nat → Nat} {P : Program} {n : Nat} {E : Nat → Ent} {w : World}

/-! ### Bounds -/
theorem natOf_VR {v : AV} {m : Nat} (h : natOf v = some m) {u : Value} (hu : VR G n E v u) : ∃ k i, u = .int k i ∧ 0 ≤ i ∧ i.toNat = m := by
  cases v <;> simp [natOf] at h
  exact ⟨_, _, hu, h.1, h.2⟩

/-- A bound in the model beside a bound of the small machine. -/
def BdR : Option Value → Option Nat → Prop
  | none, none => True
  | some u, some m => ∃ k i, u = .int k i ∧ 0 ≤ i ∧ i.toNat = m
  | _, _ => False

theorem run_sliceBound {k : IntKind} {i : Int} {y : Nat} {code : BoundsCode} (h0 : 0 ≤ i) (h : i.toNat ≤ y) : (Instr.sliceBound (.int k i) y code).run P w = .ok i.toNat w := by
  have : i ≤ (y : Int) := by omega
  simp [Instr.sliceBound, asIntOf, h0, this]

theorem run_bounds {isS : Bool} {len cap : Nat} {lo hi mx : Option Value} {l h m : Option Nat} (h1 : BdR lo l) (h2 : BdR hi h) (h3 : BdR mx m) (hm : ∀ q, m = some q → q ≤ cap) (hh : h.getD len ≤ m.getD cap) (hl : l.getD 0 ≤ h.getD len)
    (hx : mx.isSome = true → hi.isSome = true) : (Instr.sliceBounds isS len cap lo hi mx).run P w = .ok (l.getD 0, h.getD len, m.getD cap) w := by
  have key : ∀ (o : Option Value) (r : Option Nat), BdR o r → (o = none ∧ r = none) ∨ ∃ k i, o = some (.int k i) ∧ 0 ≤ i ∧ r = some i.toNat := by
    intro o r hor
    cases o <;> cases r
    · exact .inl ⟨rfl, rfl⟩
    · exact hor.elim
    · exact hor.elim
    · obtain ⟨k, i, rfl, h0, rfl⟩ := hor; exact .inr ⟨k, i, rfl, h0, rfl⟩
  rcases key _ _ h1 with ⟨rfl, rfl⟩ | ⟨k1, i1, rfl, q1, rfl⟩ <;> rcases key _ _ h2 with ⟨rfl, rfl⟩ | ⟨k2, i2, rfl, q2, rfl⟩ <;> rcases key _ _ h3 with ⟨rfl, rfl⟩ | ⟨k3, i3, rfl, q3, rfl⟩ <;>
    simp only [Option.getD_none, Option.getD_some] at hh hl hm ⊢
  · simp [Instr.sliceBounds]
  · simp at hx
  · simp [Instr.sliceBounds, run_sliceBound q2 hh]
  · have := hm _ rfl
    simp [Instr.sliceBounds, run_sliceBound q3 this, run_sliceBound q2 hh]
  · simp [Instr.sliceBounds, run_sliceBound q1 hl]
  · simp at hx
  · simp [Instr.sliceBounds, run_sliceBound q2 hh, run_sliceBound q1 hl]
  · have := hm _ rfl
    simp [Instr.sliceBounds, run_sliceBound q3 this, run_sliceBound q2 hh, run_sliceBound q1 hl]

theorem run_sl {t e : TypeId} {sz : Nat} (ht : P.underlying t = some (.slice e)) (hs : sizeT P e = some sz) {p : Option (Nat × Nat)} {sv len : Nat} {cap : Option Nat} {u : Value} (hu : VR G n E (.slc p sv len cap) u)
    {lo hi mx : Option Value} {l h m : Option Nat} (h1 : BdR lo l) (h2 : BdR hi h) (h3 : BdR mx m) (hx : mx.isSome = true → hi.isSome = true) (hsz : p.isNone = true ∨ sv = sz)
    (hm : leO m (limOf p len cap) = true) (hh : h.getD len ≤ m.getD (limOf p len cap)) (hl : l.getD 0 ≤ h.getD len) :
    ∃ u', (Instr.sliceAt t u lo hi mx).run P w = .ok u' w ∧
      VR G n E (.slc (p.map fun q => (q.1, q.2 + l.getD 0 * sz)) sv (h.getD len - l.getD 0) (capOf m cap (l.getD 0))) u' := by
  have hm : ∀ q, m = some q → q ≤ limOf p len cap := by
    intro q hq; subst hq; simpa [leO] using hm
  cases p with
  | none =>
    obtain ⟨rfl, rfl⟩ := hu
    simp only [limOf] at hm hh
    have hm0 : m.getD 0 = 0 := by cases m with | none => rfl | some q => have := hm q rfl; simp; omega
    have hrun : (Instr.sliceBounds true 0 0 lo hi mx).run P w = .ok (l.getD 0, h.getD 0, m.getD 0) w := run_bounds h1 h2 h3 (fun q hq => by have := hm q hq; omega) (by omega) hl hx
    refine ⟨.slice none 0 0, ?_, ⟨by omega, rfl⟩⟩
    have e1 : h.getD 0 = 0 := by omega
    have e2 : l.getD 0 = 0 := by omega
    simp [Instr.sliceAt, run_underlying ht, Instr.slice, hrun, run_sizeOf hs, hm0, e1, e2]
  | some p =>
    obtain ⟨b, off⟩ := p
    obtain ⟨hb, a, c, rfl, hlc, hcap, hadr⟩ := hu
    simp only [limOf] at hm hh
    have hsz' : sv = sz := hsz.resolve_left (by simp)
    subst hsz'
    have hlim : cap.getD len ≤ c := by
      cases cap with
      | none => exact hlc
      | some k => have := hcap k rfl; simp; omega
    have hmc : m.getD c ≤ c := by
      cases m with
      | none => exact Nat.le_refl _
      | some q => have := hm q rfl; simp; omega
    have hhm : h.getD len ≤ m.getD c := by
      cases m with
      | none => simp at hh ⊢; omega
      | some q => simpa using hh
    have hrun : (Instr.sliceBounds true len c lo hi mx).run P w = .ok (l.getD 0, h.getD len, m.getD c) w := run_bounds h1 h2 h3 (fun q hq => by have := hm q hq; omega) hhm hl hx
    refine ⟨.slice (some (if m.getD c = l.getD 0 then a else a.add (l.getD 0 * sv))) (h.getD len - l.getD 0) (m.getD c - l.getD 0), ?_, ⟨hb, _, _, rfl, by omega, ?_, ?_⟩⟩
    · simp only [Instr.sliceAt, Sem.run_bind, run_underlying ht, Result.andThen_ok, Instr.slice, hrun, run_sizeOf hs, Sem.run_pure]
      split <;> rfl
    · intro k hk
      cases m with
      | none =>
        simp [capOf] at hk
        obtain ⟨k0, hk0, rfl⟩ := hk
        have := hcap k0 hk0
        simp; omega
      | some q => simp [capOf] at hk; simp; omega
    · intro hpos
      have hc : 0 < c := by omega
      obtain ⟨ha, hC⟩ := hadr hc
      rw [if_neg (by omega), ha]
      refine ⟨?_, ?_⟩
      · unfold Addr.add
        split
        · rename_i h0; rw [h0]; rfl
        · simp [Nat.add_assoc]
      · have : (m.getD c - l.getD 0) * sv + l.getD 0 * sv ≤ c * sv := by
          rw [← Nat.add_mul]
          exact Nat.mul_le_mul_right _ (by omega)
        show off + l.getD 0 * sv + (m.getD c - l.getD 0) * sv ≤ (E b).C
        omega

theorem run_slS {t : TypeId} (ht : P.underlying t = some .string) {s : List UInt8} {lo hi : Option Value} {l h : Option Nat} (h1 : BdR lo l) (h2 : BdR hi h) (hh : h.getD s.length ≤ s.length) (hl : l.getD 0 ≤ h.getD s.length) :
    (Instr.sliceAt t (.string ⟨⟨s⟩⟩) lo hi none).run P w = .ok (.string ⟨⟨(s.take (h.getD s.length)).drop (l.getD 0)⟩⟩) w := by
  have hrun : (Instr.sliceBounds false s.length s.length lo hi none).run P w = .ok (l.getD 0, h.getD s.length, s.length) w := by
    have := run_bounds (P := P) (w := w) (isS := false) (len := s.length) (cap := s.length) (mx := none) (m := none) h1 h2 trivial (fun q hq => by cases hq) hh hl (by simp)
    simpa using this
  simp [Instr.sliceAt, run_underlying ht, Instr.slice, bs_size, hrun, bs_extract]

/-! ### Filling a template -/
theorem foldl_set (off : Nat) (l : List Value) : ∀ (k : Nat) (cells : Array Value), ((l.zipIdx k).foldl (fun (cs : Array Value) (p : Value × Nat) => cs.setIfInBounds (off + p.2) p.1) cells).size = cells.size ∧
    ∀ i, ((l.zipIdx k).foldl (fun (cs : Array Value) (p : Value × Nat) => cs.setIfInBounds (off + p.2) p.1) cells)[i]? = if off + k ≤ i ∧ i < off + k + l.length ∧ i < cells.size then l[i - (off + k)]? else cells[i]? := by
  induction l with
  | nil =>
    intro k cells
    refine ⟨rfl, fun i => ?_⟩
    rw [if_neg (by simp; omega)]; rfl
  | cons v l ih =>
    intro k cells
    simp only [List.zipIdx_cons, List.foldl_cons]
    obtain ⟨h1, h2⟩ := ih (k + 1) (cells.setIfInBounds (off + k) v)
    refine ⟨by rw [h1]; simp, fun i => ?_⟩
    rw [h2, Array.size_setIfInBounds]
    by_cases hi : i < cells.size
    · by_cases e : i = off + k
      · subst e
        rw [if_neg (by omega), if_pos (by simp; exact hi)]
        simp [hi]
      · by_cases hr : off + (k + 1) ≤ i ∧ i < off + (k + 1) + l.length
        · rw [if_pos ⟨hr.1, hr.2, hi⟩, if_pos ⟨by omega, by simp; omega, hi⟩]
          rw [show i - (off + k) = (i - (off + (k + 1))) + 1 by omega]; rfl
        · rw [if_neg (by omega), if_neg (by simp; omega), Array.getElem?_setIfInBounds_ne (by omega)]
    · rw [if_neg (by omega), if_neg (by omega)]
      rw [Array.getElem?_eq_none (by simp; omega), Array.getElem?_eq_none (by omega)]

theorem fill_VRs {place : Nat → Option (Nat × Nat)} : ∀ (is : List (Nat × Value)) (pl : List (Nat × Nat)) (vs cells cells' : List AV) (us : Array Value), Am.fill cells pl vs = some cells' → VRs G n E cells us.toList →
    mapO (fun (p : Nat × Value) => place p.1) is = some pl → VRs G n E vs (is.map (·.2)) → ∃ us', Instr.fill place us is = some us' ∧ VRs G n E cells' us'.toList
  | [], pl, vs, cells, cells', us, h, hu, hp, hv => by
    simp [mapO] at hp; subst hp
    have : vs = [] := by cases vs with | nil => rfl | cons a as => obtain ⟨_, _, e, _⟩ := hv; simp at e
    subst this
    simp [Am.fill] at h; subst h
    exact ⟨us, rfl, hu⟩
  | (i, u) :: is, pl, vs, cells, cells', us, h, hu, hp, hv => by
    unfold mapO at hp
    cases h1 : place i with
    | none => simp [h1] at hp
    | some q =>
      cases h2 : mapO (fun (p : Nat × Value) => place p.1) is with
      | none => simp [h1, h2] at hp
      | some pl' =>
        simp [h1, h2] at hp
        subst hp
        obtain ⟨off, sz⟩ := q
        cases vs with
        | nil => have hv' : List.map (·.2) ((i, u) :: is) = [] := hv; simp at hv'
        | cons v vs =>
        obtain ⟨u0, r0, e0, hv1, hv2⟩ := hv
        simp only [List.map_cons, List.cons.injEq] at e0
        obtain ⟨rfl, rfl⟩ := e0
        unfold Am.fill at h
        split at h
        · rename_i hc
          have hvc := VR.cells hv1 hc.2.2
          have hul := hu.length
          have hvl := hvc.length
          simp only [Array.length_toList] at hul hvl
          obtain ⟨f1, f2⟩ := foldl_set off u.cells.toList 0 us
          have hz : u.cells.zipIdx.foldl (fun (cs : Array Value) (p : Value × Nat) => cs.setIfInBounds (off + p.2) p.1) us = (u.cells.toList.zipIdx 0).foldl (fun (cs : Array Value) (p : Value × Nat) => cs.setIfInBounds (off + p.2) p.1) us := by
            rw [← Array.foldl_toList]; simp
          rw [← hz] at f1 f2
          unfold Instr.fill
          simp only [h1]
          rw [if_neg (by simp; omega)]
          refine fill_VRs is pl' vs _ cells' _ h ?_ h2 hv2
          refine VRs.of_get (by rw [Array.length_toList, f1, hul, splice_length (by omega)]) (fun j a hj => ?_)
          rw [splice_get (by omega)] at hj
          rw [Array.getElem?_toList, f2 j]
          have hjl : j < cells.length := by
            by_cases q1 : j < off
            · omega
            · by_cases q2 : j < off + v.cells.length
              · omega
              · rw [if_neg q1, if_neg q2] at hj
                exact (List.getElem?_eq_some_iff.1 hj).1
          by_cases q1 : j < off
          · rw [if_pos q1] at hj
            rw [if_neg (by omega), ← Array.getElem?_toList]
            exact hu.get _ _ hj
          · rw [if_neg q1] at hj
            by_cases q2 : j < off + v.cells.length
            · rw [if_pos q2] at hj
              rw [if_pos ⟨by omega, by simp; omega, by omega⟩]
              exact hvc.get _ _ hj
            · rw [if_neg q2] at hj
              rw [if_neg (by simp; omega), ← Array.getElem?_toList]
              exact hu.get _ _ hj
        · cases h

end Go.Am
