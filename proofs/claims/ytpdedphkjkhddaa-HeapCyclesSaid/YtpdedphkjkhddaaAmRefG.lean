/- The reference's leads. -/
import Derived.Test.YtpdedphkjkhddaaAmHeapsX
import Derived.Test.YtpdedphkjkhddaaAmCpy
set_option linter.unusedVariables false
set_option linter.unusedSimpArgs false
namespace Go.Am
variable {T : Tab}
/-- Up to a place, all that is led to is there. -/
def Clo (cs : List Cel) (fr bs : List Bool) (j : Nat) : Prop := ∀ i : Int, 0 ≤ i → i < j → nth fr i = true ∨ nth bs i = true → ∀ t ∈ strongs (nth cs i).fs, nth bs t = true
def Rnd1 (n0 : Nat) (X : AHeap) (sv : AV) (cells : List Cel) (fr : List Bool) (first : Bool) (z : Nat) (v : AV) : Prop := ∃ mo bs, v = .bool mo ∧ Made encB 1 n0 X sv bs ∧ Lead cells fr first bs ∧ (if mo = true then falses bs + 1 else 0) = z ∧ (mo = false → Clo cells fr bs cells.length)
def Rnd3 (n0 : Nat) (X : AHeap) (sv : AV) (cells : List Cel) (fr : List Bool) (first : Bool) (f j q : Nat) (v : AV) : Prop := ∃ mo cs, v = .bool mo ∧ Made encB 1 n0 X sv cs ∧ Lead cells fr first cs ∧ falses cs + one_ mo ≤ f ∧ (nth fr (j : Int) = true ∨ nth cs (j : Int) = true) ∧ (mo = false → Clo cells fr cs j ∧ ∀ t ∈ strongs ((nth cells (j : Int)).fs.take q), nth cs t = true)
def Rnd2 (n0 : Nat) (X : AHeap) (sv : AV) (cells : List Cel) (fr : List Bool) (first : Bool) (f j : Nat) (v : AV) : Prop := ∃ mo cs, v = .bool mo ∧ Made encB 1 n0 X sv cs ∧ Lead cells fr first cs ∧ falses cs + one_ mo ≤ f ∧ (mo = false → Clo cells fr cs j)
section
variable {k : Nat} {tg : Tags} {H : AHeap} {b : Nat} {S : Rp} {fb : Nat} {cv nv : AV} {fc fn : Option Nat} {xs : List (AV × Cel)} {ff : Nat → Option Nat}
theorem c372 (D : D372 T) (hw : WF H) (hk : TagOk tg H) (h : RpI k tg H b S fb cv nv fc fn xs ff) (hs : Shp S.cells) (ht : ∀ c ∈ S.cells, ∀ t ∈ strongs c.fs, 0 ≤ t ∧ t < S.cells.length) (hd : ∀ i : Int, 0 ≤ i → i < S.cells.length → (nth S.cells i).e = true → strongs (nth S.cells i).fs = [])
    {v : AV} {fr : List Bool} (hv : Sl encB 1 H v fr) (hfl : fr.length = S.cells.length) {first : Bool} :
    Calls T 372 [.ptr (some (b, 0)), v, .bool first] H fun r K => Fr H K ∧ ∃ bs : List Bool, Made encB 1 H.next K r bs ∧ bs.length = S.cells.length ∧ ∀ a : Int, 0 ≤ a → a < S.cells.length → (nth bs a = true ↔ From S.cells fr first a) := by
  refine Calls.fn D.pr D.fn ?_
  obtain ⟨n, hn⟩ : ∃ n, S.cells.length = n := ⟨_, rfl⟩
  have hn100 : n ≤ 100 := by rw [← hn]; exact hs.len
  have hmk := wsem0_mks (bytes := 1) (n := n) (zero := [AV.bool false]) (k := .i64) (l := .i64) (H := H) (by omega) (by simp) rfl (by omega)
  have ow := hw.own_new (enc := encB) (sz := 1) (l := List.replicate n false) (cs := (List.replicate n [AV.bool false]).flatten) (cap := some n) (by intro x _; rfl) (by simp) (by simp) (by
    rw [flat_bools]
    rw [List.take_of_length_le]
    rw [flat_len (sz := 1) (by intro x _; rfl)]
    simp)
  simp only [List.length_replicate] at ow
  have f1 := hw.fr_new (cs := (List.replicate n [AV.bool false]).flatten)
  obtain ⟨H1, hH1⟩ : ∃ H1, H.new (List.replicate n [AV.bool false]).flatten = H1 := ⟨_, rfl⟩
  rw [hH1] at hmk ow f1
  have hlen := h.lenC
  rw [hn] at hlen
  simp only [List.length_cons, List.length_nil] at hmk
  have m1 : Made encB 1 H.next H1 _ (List.replicate n false) := ⟨some H.next, ow, fun g hg => by cases hg; exact Nat.le_refl _⟩
  obtain ⟨sv, hsv⟩ : ∃ sv, AV.slc (some (H.next, 0)) 1 n (some n) = sv := ⟨_, rfl⟩
  rw [hsv] at m1
  simp only [Nat.zero_add] at hmk
  rw [hsv] at hmk
  -- the start
  have start : ∃ H2 bs, (first = false → wsem0 (.cpy 1) [sv, v] H1 = some (.int .i64 n, H2)) ∧ (first = true → H2 = H1) ∧ Fr H H2 ∧ Made encB 1 H.next H2 sv bs ∧ Lead S.cells fr first bs := by
    cases first with
    | true =>
      refine ⟨H1, _, by simp, fun _ => rfl, f1, m1, by simp [hn], fun a a0 a1 hb => ?_, fun h => by cases h⟩
      exfalso
      have : nth (List.replicate n false) a = false := by unfold nth; rw [List.getD_eq_getElem?_getD]; cases hq : (List.replicate n false)[a.toNat]? with | none => rfl | some y => (have := List.mem_of_getElem? hq; rw [List.mem_replicate] at this; simp [this.2])
      rw [this] at hb; cases hb
    | false =>
      obtain ⟨f, o1, o2⟩ := m1
      obtain ⟨H2, q1, q2, q3, q4, q5⟩ := o1.cpy f1.wf (hv.fr hw f1) (by simp [hfl, hn]) (by simp) (Cell.all _)
      refine ⟨H2, fr, fun _ => by simpa using q1, by simp, f1.step q2 q4 o2, ⟨f, q3, o2⟩, by rw [hfl], fun a a0 a1 hb => ⟨a, a0, a1, hb, by simpa using Reach.refl a⟩, fun _ a _ _ h => h⟩
  obtain ⟨H2, bs0, w1, w2, f2, m2, ld0⟩ := start
  -- the walk
  simp [ir372, h.ldc, hlen, hmk]
  cases first with
  | false =>
    simp [w1 rfl]
    refine W_loop (fun (z : Nat) e X => e 0 = .ptr (some (b, 0)) ∧ e 1 = v ∧ Fr H X ∧ e 7 = sv ∧ Rnd1 H.next X sv S.cells fr false z (e 8)) id (falses bs0 + 1) ?_ ?_
    · exact ⟨by simp, by simp, f2, by simp, by simp; exact ⟨true, bs0, rfl, m2, ld0, by simp, by simp⟩⟩
    · rintro z e X ⟨x0, x1, fX, x7, mo, bs, x8, mb, ld, hz, hcl⟩
      simp [x0, x1, x7, x8]
      cases mo with
      | false =>
        simp [x7]
        exact ⟨fX, bs, mb, ld.len, fun a a0 a1 => ld.done ht (hcl rfl) a0 a1⟩
      | true =>
        have hz : falses bs + 1 = z := by simpa using hz
        simp [x0, x1, x7]
        refine W_loop (fun (y : Nat) e X => e 0 = .ptr (some (b, 0)) ∧ e 1 = v ∧ Fr H X ∧ e 7 = sv ∧ ∃ j : Nat, y + j = n ∧ e 9 = .int .i64 j ∧ Rnd2 H.next X sv S.cells fr false (falses bs) j (e 8)) id n ?_ ?_
        · exact ⟨by simp [x0], by simp [x1], fX, by simp [x7], 0, by simp, by simp, by simp; exact ⟨false, bs, rfl, mb, ld, by simp [one_], fun _ i i0 i1 => by omega⟩⟩
        · rintro y e X ⟨x0, x1, fX, x7, j, hj, x9, mo, cs, x8, mc, lc, hfa, hcl⟩
          have hX : RpI k tg X b S fb cv nv fc fn xs ff := h.fr hw fX
          have kX : TagOk tg X := fun g hg => hk g (Nat.le_trans fX.next hg)
          have hlX := hX.lenC
          rw [hn] at hlX
          simp [x0, x1, x7, x9, hX.ldc, hlX]
          refine WB.dec ?_ ?_
          · intro hlt
            have jS : (j : Int) < S.cells.length := by omega
            have jc : (j : Int) < cs.length := by rw [lc.len]; exact jS
            have hvX := hv.fr hw fX
            have iaf := hvX.ia (k := .i64) (i := (j : Int)) (by omega) (by rw [hfl]; exact jS)
            have ldf := hvX.ld (i := (j : Int)) (by omega) (by rw [hfl]; exact jS)
            have ias := mc.sl.ia (k := .i64) (i := (j : Int)) (by omega) jc
            have lds := mc.sl.ld (i := (j : Int)) (by omega) jc
            obtain ⟨bo, oo, e1, e2, e3, e4, e5, e6, _⟩ := hX.cell fX.wf kX (i := (j : Int)) (by omega) jS
            have iac := hX.ia (kk := .i64) (i := (j : Int)) (by omega) jS
            have hw1 : IntKind.i64.wrap ((j : Int) + 1) = ((j + 1 : Nat) : Int) := by rw [wrap64 (by omega) (by omega)]; simp
            have more : (mo = false → Clo S.cells fr cs (j + 1 : Nat)) → ∃ q, q < y ∧ e 0 = .ptr (some (b, 0)) ∧ e 1 = v ∧ Fr H X ∧ e 7 = sv ∧ ∃ j' : Nat, q + j' = n ∧ IntKind.i64.wrap ((j : Int) + 1) = (j' : Int) ∧ Rnd2 H.next X sv S.cells fr false (falses bs) j' (e 8) :=
              fun hm => ⟨y - 1, by omega, x0, x1, fX, x7, j + 1, by omega, hw1, mo, cs, x8, mc, lc, hfa, hm⟩
            have ext : (nth fr (j : Int) = true ∨ nth cs (j : Int) = true → ∀ t ∈ strongs (nth S.cells (j : Int)).fs, nth cs t = true) → mo = false → Clo S.cells fr cs (j + 1 : Nat) := by
              intro hj hm i i0 i1 hi
              by_cases e : i = (j : Int)
              · subst e; exact hj hi
              · exact hcl hm i i0 (by simp at i1; omega) hi
            by_cases live : (nth fr (j : Int) = true ∨ nth cs (j : Int) = true) ∧ (nth S.cells (j : Int)).e = false
            · obtain ⟨lv, he⟩ := live
              have hcond : ∀ (A : Prop), A → A := fun _ h => h
              have go : ∀ (a b : Bool), nth fr (j : Int) = a → nth cs (j : Int) = b → (a = true ∨ b = true) := fun a b ha hb => by rw [← ha, ← hb]; exact lv
              have fl0 := hs.fl _ (nth_mem (l := S.cells) (i := (j : Int)) (by omega) jS)
              cases ha : nth fr (j : Int) <;> cases hb : nth cs (j : Int) <;> first
                | (exfalso; rw [ha, hb] at lv; simp at lv; done)
                | (simp [x0, x1, x7, x9, iaf, ldf, ias, lds, encB, ha, hb, he, hX.ldc, iac, e1, e5]
                   refine W_loop (fun (w : Nat) e X => e 0 = .ptr (some (b, 0)) ∧ e 1 = v ∧ Fr H X ∧ e 7 = sv ∧ e 9 = .int .i64 j ∧ ∃ q : Nat, w + q = (nth S.cells (j : Int)).fs.length ∧ e 10 = .int .i64 q ∧ Rnd3 H.next X sv S.cells fr false (falses bs) j q (e 8)) id (nth S.cells (j : Int)).fs.length ?_ ?_
                   · exact ⟨by simp [x0], by simp [x1], fX, by simp [x7], by simp [x9], 0, by simp, by simp, by simp [x8]; exact ⟨mo, cs, rfl, mc, lc, hfa, lv, fun hm => ⟨hcl hm, by simp [strongs]⟩⟩⟩
                   · rintro w e X ⟨x0, x1, fX, x7, x9, q, hq, x10, mo, cs, x8, mc, lc, hfa, lv, hcl⟩
                     have hX : RpI k tg X b S fb cv nv fc fn xs ff := h.fr hw fX
                     have kX : TagOk tg X := fun g hg => hk g (Nat.le_trans fX.next hg)
                     obtain ⟨bo, oo, e1, e2, _⟩ := hX.cell fX.wf kX (i := (j : Int)) (by omega) jS
                     have iac := hX.ia (kk := .i64) (i := (j : Int)) (by omega) jS
                     have hfl2 : psem .len [(nth xs (j : Int)).1] = some (.int .i64 (nth S.cells (j : Int)).fs.length) := (hX.fld (by omega) jS).len
                     simp [x0, x9, x10, hX.ldc, iac, e1, e2, hfl2]
                     refine WB.dec ?_ ?_
                     · intro hlt
                       have hlq : q < (nth S.cells (j : Int)).fs.length := by omega
                       obtain ⟨_, _, b2, o2, K, _, _, _, g4, g5, g6, g7, g8, g9, g10, g11⟩ := hX.field fX.wf kX (i := j) (j := q) (by omega) hlq
                       have g4 := g4 .i64
                       obtain ⟨x, hx⟩ : ∃ x, nth (nth S.cells (j : Int)).fs (q : Int) = x := ⟨_, rfl⟩
                       have hst := strongs_take hlq
                       rw [hx] at g6 g7 g9 g10 g11 hst
                       have mcK := mc.fr fX.wf g8
                       have hw1 : IntKind.i64.wrap ((q : Int) + 1) = ((q + 1 : Nat) : Int) := by rw [wrap64 (by omega) (by omega)]; simp
                       have skip : (∀ t ∈ strongs ((nth S.cells (j : Int)).fs.take q), nth cs t = true → True) → (mo = false → ∀ t ∈ strongs ((nth S.cells (j : Int)).fs.take (q + 1)), nth cs t = true) → ∃ j', j' < w ∧ Fr H K ∧ ∃ q' : Nat, j' + q' = (nth S.cells (j : Int)).fs.length ∧ IntKind.i64.wrap ((q : Int) + 1) = (q' : Int) ∧ Rnd3 H.next K sv S.cells fr false (falses bs) j q' (e 8) :=
                         fun _ hm => ⟨w - 1, by omega, fX.trans g8, q + 1, by omega, hw1, mo, cs, x8, mcK, lc, hfa, lv, fun h => ⟨(hcl h).1, hm h⟩⟩
                       by_cases hsx : (x.is && !x.weak) = true
                       · rw [if_pos hsx] at hst
                         have hxi : x.is = true := by simp at hsx; exact hsx.1
                         have hxw : x.weak = false := by simp at hsx; exact hsx.2
                         rw [hxi] at g10
                         rw [hxw] at g11
                         have hxm : x.to ∈ strongs (nth S.cells (j : Int)).fs := by
                           unfold strongs
                           exact List.mem_map.2 ⟨x, List.mem_filter.2 ⟨by rw [← hx]; exact nth_mem (by omega) (by omega), hsx⟩, rfl⟩
                         obtain ⟨t0, t1⟩ := ht _ (nth_mem (by omega) jS) _ hxm
                         have tc : x.to < cs.length := by rw [lc.len]; exact t1
                         have iat := mcK.sl.ia (k := .i64) t0 tc
                         have ldt := mcK.sl.ld t0 tc
                         cases hb : nth cs x.to with
                         | true =>
                           simp [x0, x1, x7, x9, x10, hX.ldc, iac, e1, e2, g4, g5, g6, g7, g9, g10, g11, iat, ldt, hb, encB, AV.cells, AV.cell]
                           exact skip (fun _ _ _ => trivial) fun hm t htt => by
                             rw [hst] at htt
                             rcases List.mem_append.1 htt with z | z
                             · exact (hcl hm).2 t z
                             · rw [List.mem_singleton] at z; rw [z]; exact hb
                         | false =>
                           obtain ⟨K2, s1, s2, s3, s4, s5⟩ := mcK.st g8.wf t0 tc true
                           simp only [encB] at s1
                           have hfs := falses_set t0 tc hb
                           have lm := lc.mark (by omega) jS lv hxm t0 t1
                           simp [x0, x1, x7, x9, x10, hX.ldc, iac, e1, e2, g4, g5, g6, g7, g9, g10, g11, iat, ldt, hb, encB, AV.cells, AV.cell, s1]
                           exact ⟨w - 1, by omega, (fX.trans g8).step s2 s3 fun g hg => hg, q + 1, by omega, hw1, true, _, rfl, s4, lm, by simp [one_]; omega, by
                             rcases lv with z | z
                             · exact .inl z
                             · right
                               rw [nth_set t0 tc (by omega)]
                               split
                               · rfl
                               · exact z, by simp⟩
                       · rw [if_neg hsx] at hst
                         have hm2 : mo = false → ∀ t ∈ strongs ((nth S.cells (j : Int)).fs.take (q + 1)), nth cs t = true := fun hm => by rw [hst]; exact (hcl hm).2
                         cases hxi : x.is with
                         | false =>
                           rw [hxi] at g10
                           simp [x0, x1, x7, x9, x10, hX.ldc, iac, e1, e2, g4, g5, g6, g7, g9, g10, g11, AV.cells, AV.cell]
                           exact skip (fun _ _ _ => trivial) hm2
                         | true =>
                           have hxw : x.weak = true := by rw [hxi] at hsx; simpa using hsx
                           rw [hxi] at g10
                           rw [hxw] at g11
                           simp [x0, x1, x7, x9, x10, hX.ldc, iac, e1, e2, g4, g5, g6, g7, g9, g10, g11, AV.cells, AV.cell]
                           exact skip (fun _ _ _ => trivial) hm2
                     · intro hlt
                       have hqe : q = (nth S.cells (j : Int)).fs.length := by omega
                       subst hqe
                       simp [x0, x9]
                       refine ⟨y - 1, by omega, x1, fX, x7, j + 1, by omega, by rw [wrap64 (by omega) (by omega)]; simp, mo, cs, x8, mc, lc, hfa, fun hm i i0 i1 hi => ?_⟩
                       by_cases e : i = (j : Int)
                       · subst e; have := (hcl hm).2; rw [List.take_length] at this; exact this
                       · exact (hcl hm).1 i i0 (by simp at i1; omega) hi)
            · have skip := more (ext fun hi t htt => by
                exfalso
                have he : (nth S.cells (j : Int)).e = true := by
                  cases q : (nth S.cells (j : Int)).e with
                  | true => rfl
                  | false => exact absurd ⟨hi, q⟩ live
                rw [hd j (by omega) jS he] at htt; cases htt)
              cases ha : nth fr (j : Int) <;> cases hb : nth cs (j : Int) <;> cases hc : (nth S.cells (j : Int)).e <;> rw [ha, hb, hc] at live <;> first
                | (simp at live; done)
                | (simp [x0, x1, x7, x9, iaf, ldf, ias, lds, encB, ha, hb, hc, hX.ldc, iac, e1, e5]; simpa [x0, x1, x7] using skip)
          · intro hlt
            have hjn : j = S.cells.length := by omega
            simp
            cases mo with
            | true => exact ⟨falses cs + 1, by simp [one_] at hfa; omega, x0, x1, fX, x7, true, cs, x8, mc, lc, by simp, by simp⟩
            | false => exact ⟨0, by omega, x0, x1, fX, x7, false, cs, x8, mc, lc, by simp, fun _ => by rw [← hjn]; exact hcl rfl⟩
  | true =>
    simp
    rw [w2 rfl] at f2 m2
    refine W_loop (fun (z : Nat) e X => e 0 = .ptr (some (b, 0)) ∧ e 1 = v ∧ Fr H X ∧ e 7 = sv ∧ Rnd1 H.next X sv S.cells fr true z (e 8)) id (falses bs0 + 1) ?_ ?_
    · exact ⟨by simp, by simp, f2, by simp, by simp; exact ⟨true, bs0, rfl, m2, ld0, by simp, by simp⟩⟩
    · rintro z e X ⟨x0, x1, fX, x7, mo, bs, x8, mb, ld, hz, hcl⟩
      simp [x0, x1, x7, x8]
      cases mo with
      | false =>
        simp [x7]
        exact ⟨fX, bs, mb, ld.len, fun a a0 a1 => ld.done ht (hcl rfl) a0 a1⟩
      | true =>
        have hz : falses bs + 1 = z := by simpa using hz
        simp [x0, x1, x7]
        refine W_loop (fun (y : Nat) e X => e 0 = .ptr (some (b, 0)) ∧ e 1 = v ∧ Fr H X ∧ e 7 = sv ∧ ∃ j : Nat, y + j = n ∧ e 9 = .int .i64 j ∧ Rnd2 H.next X sv S.cells fr true (falses bs) j (e 8)) id n ?_ ?_
        · exact ⟨by simp [x0], by simp [x1], fX, by simp [x7], 0, by simp, by simp, by simp; exact ⟨false, bs, rfl, mb, ld, by simp [one_], fun _ i i0 i1 => by omega⟩⟩
        · rintro y e X ⟨x0, x1, fX, x7, j, hj, x9, mo, cs, x8, mc, lc, hfa, hcl⟩
          have hX : RpI k tg X b S fb cv nv fc fn xs ff := h.fr hw fX
          have kX : TagOk tg X := fun g hg => hk g (Nat.le_trans fX.next hg)
          have hlX := hX.lenC
          rw [hn] at hlX
          simp [x0, x1, x7, x9, hX.ldc, hlX]
          refine WB.dec ?_ ?_
          · intro hlt
            have jS : (j : Int) < S.cells.length := by omega
            have jc : (j : Int) < cs.length := by rw [lc.len]; exact jS
            have hvX := hv.fr hw fX
            have iaf := hvX.ia (k := .i64) (i := (j : Int)) (by omega) (by rw [hfl]; exact jS)
            have ldf := hvX.ld (i := (j : Int)) (by omega) (by rw [hfl]; exact jS)
            have ias := mc.sl.ia (k := .i64) (i := (j : Int)) (by omega) jc
            have lds := mc.sl.ld (i := (j : Int)) (by omega) jc
            obtain ⟨bo, oo, e1, e2, e3, e4, e5, e6, _⟩ := hX.cell fX.wf kX (i := (j : Int)) (by omega) jS
            have iac := hX.ia (kk := .i64) (i := (j : Int)) (by omega) jS
            have hw1 : IntKind.i64.wrap ((j : Int) + 1) = ((j + 1 : Nat) : Int) := by rw [wrap64 (by omega) (by omega)]; simp
            have more : (mo = false → Clo S.cells fr cs (j + 1 : Nat)) → ∃ q, q < y ∧ e 0 = .ptr (some (b, 0)) ∧ e 1 = v ∧ Fr H X ∧ e 7 = sv ∧ ∃ j' : Nat, q + j' = n ∧ IntKind.i64.wrap ((j : Int) + 1) = (j' : Int) ∧ Rnd2 H.next X sv S.cells fr true (falses bs) j' (e 8) :=
              fun hm => ⟨y - 1, by omega, x0, x1, fX, x7, j + 1, by omega, hw1, mo, cs, x8, mc, lc, hfa, hm⟩
            have ext : (nth fr (j : Int) = true ∨ nth cs (j : Int) = true → ∀ t ∈ strongs (nth S.cells (j : Int)).fs, nth cs t = true) → mo = false → Clo S.cells fr cs (j + 1 : Nat) := by
              intro hj hm i i0 i1 hi
              by_cases e : i = (j : Int)
              · subst e; exact hj hi
              · exact hcl hm i i0 (by simp at i1; omega) hi
            by_cases live : (nth fr (j : Int) = true ∨ nth cs (j : Int) = true) ∧ (nth S.cells (j : Int)).e = false
            · obtain ⟨lv, he⟩ := live
              have hcond : ∀ (A : Prop), A → A := fun _ h => h
              have go : ∀ (a b : Bool), nth fr (j : Int) = a → nth cs (j : Int) = b → (a = true ∨ b = true) := fun a b ha hb => by rw [← ha, ← hb]; exact lv
              have fl0 := hs.fl _ (nth_mem (l := S.cells) (i := (j : Int)) (by omega) jS)
              cases ha : nth fr (j : Int) <;> cases hb : nth cs (j : Int) <;> first
                | (exfalso; rw [ha, hb] at lv; simp at lv; done)
                | (simp [x0, x1, x7, x9, iaf, ldf, ias, lds, encB, ha, hb, he, hX.ldc, iac, e1, e5]
                   refine W_loop (fun (w : Nat) e X => e 0 = .ptr (some (b, 0)) ∧ e 1 = v ∧ Fr H X ∧ e 7 = sv ∧ e 9 = .int .i64 j ∧ ∃ q : Nat, w + q = (nth S.cells (j : Int)).fs.length ∧ e 10 = .int .i64 q ∧ Rnd3 H.next X sv S.cells fr true (falses bs) j q (e 8)) id (nth S.cells (j : Int)).fs.length ?_ ?_
                   · exact ⟨by simp [x0], by simp [x1], fX, by simp [x7], by simp [x9], 0, by simp, by simp, by simp [x8]; exact ⟨mo, cs, rfl, mc, lc, hfa, lv, fun hm => ⟨hcl hm, by simp [strongs]⟩⟩⟩
                   · rintro w e X ⟨x0, x1, fX, x7, x9, q, hq, x10, mo, cs, x8, mc, lc, hfa, lv, hcl⟩
                     have hX : RpI k tg X b S fb cv nv fc fn xs ff := h.fr hw fX
                     have kX : TagOk tg X := fun g hg => hk g (Nat.le_trans fX.next hg)
                     obtain ⟨bo, oo, e1, e2, _⟩ := hX.cell fX.wf kX (i := (j : Int)) (by omega) jS
                     have iac := hX.ia (kk := .i64) (i := (j : Int)) (by omega) jS
                     have hfl2 : psem .len [(nth xs (j : Int)).1] = some (.int .i64 (nth S.cells (j : Int)).fs.length) := (hX.fld (by omega) jS).len
                     simp [x0, x9, x10, hX.ldc, iac, e1, e2, hfl2]
                     refine WB.dec ?_ ?_
                     · intro hlt
                       have hlq : q < (nth S.cells (j : Int)).fs.length := by omega
                       obtain ⟨_, _, b2, o2, K, _, _, _, g4, g5, g6, g7, g8, g9, g10, g11⟩ := hX.field fX.wf kX (i := j) (j := q) (by omega) hlq
                       have g4 := g4 .i64
                       obtain ⟨x, hx⟩ : ∃ x, nth (nth S.cells (j : Int)).fs (q : Int) = x := ⟨_, rfl⟩
                       have hst := strongs_take hlq
                       rw [hx] at g6 g7 g9 g10 g11 hst
                       have mcK := mc.fr fX.wf g8
                       have hw1 : IntKind.i64.wrap ((q : Int) + 1) = ((q + 1 : Nat) : Int) := by rw [wrap64 (by omega) (by omega)]; simp
                       have skip : (∀ t ∈ strongs ((nth S.cells (j : Int)).fs.take q), nth cs t = true → True) → (mo = false → ∀ t ∈ strongs ((nth S.cells (j : Int)).fs.take (q + 1)), nth cs t = true) → ∃ j', j' < w ∧ Fr H K ∧ ∃ q' : Nat, j' + q' = (nth S.cells (j : Int)).fs.length ∧ IntKind.i64.wrap ((q : Int) + 1) = (q' : Int) ∧ Rnd3 H.next K sv S.cells fr true (falses bs) j q' (e 8) :=
                         fun _ hm => ⟨w - 1, by omega, fX.trans g8, q + 1, by omega, hw1, mo, cs, x8, mcK, lc, hfa, lv, fun h => ⟨(hcl h).1, hm h⟩⟩
                       by_cases hsx : (x.is && !x.weak) = true
                       · rw [if_pos hsx] at hst
                         have hxi : x.is = true := by simp at hsx; exact hsx.1
                         have hxw : x.weak = false := by simp at hsx; exact hsx.2
                         rw [hxi] at g10
                         rw [hxw] at g11
                         have hxm : x.to ∈ strongs (nth S.cells (j : Int)).fs := by
                           unfold strongs
                           exact List.mem_map.2 ⟨x, List.mem_filter.2 ⟨by rw [← hx]; exact nth_mem (by omega) (by omega), hsx⟩, rfl⟩
                         obtain ⟨t0, t1⟩ := ht _ (nth_mem (by omega) jS) _ hxm
                         have tc : x.to < cs.length := by rw [lc.len]; exact t1
                         have iat := mcK.sl.ia (k := .i64) t0 tc
                         have ldt := mcK.sl.ld t0 tc
                         cases hb : nth cs x.to with
                         | true =>
                           simp [x0, x1, x7, x9, x10, hX.ldc, iac, e1, e2, g4, g5, g6, g7, g9, g10, g11, iat, ldt, hb, encB, AV.cells, AV.cell]
                           exact skip (fun _ _ _ => trivial) fun hm t htt => by
                             rw [hst] at htt
                             rcases List.mem_append.1 htt with z | z
                             · exact (hcl hm).2 t z
                             · rw [List.mem_singleton] at z; rw [z]; exact hb
                         | false =>
                           obtain ⟨K2, s1, s2, s3, s4, s5⟩ := mcK.st g8.wf t0 tc true
                           simp only [encB] at s1
                           have hfs := falses_set t0 tc hb
                           have lm := lc.mark (by omega) jS lv hxm t0 t1
                           simp [x0, x1, x7, x9, x10, hX.ldc, iac, e1, e2, g4, g5, g6, g7, g9, g10, g11, iat, ldt, hb, encB, AV.cells, AV.cell, s1]
                           exact ⟨w - 1, by omega, (fX.trans g8).step s2 s3 fun g hg => hg, q + 1, by omega, hw1, true, _, rfl, s4, lm, by simp [one_]; omega, by
                             rcases lv with z | z
                             · exact .inl z
                             · right
                               rw [nth_set t0 tc (by omega)]
                               split
                               · rfl
                               · exact z, by simp⟩
                       · rw [if_neg hsx] at hst
                         have hm2 : mo = false → ∀ t ∈ strongs ((nth S.cells (j : Int)).fs.take (q + 1)), nth cs t = true := fun hm => by rw [hst]; exact (hcl hm).2
                         cases hxi : x.is with
                         | false =>
                           rw [hxi] at g10
                           simp [x0, x1, x7, x9, x10, hX.ldc, iac, e1, e2, g4, g5, g6, g7, g9, g10, g11, AV.cells, AV.cell]
                           exact skip (fun _ _ _ => trivial) hm2
                         | true =>
                           have hxw : x.weak = true := by rw [hxi] at hsx; simpa using hsx
                           rw [hxi] at g10
                           rw [hxw] at g11
                           simp [x0, x1, x7, x9, x10, hX.ldc, iac, e1, e2, g4, g5, g6, g7, g9, g10, g11, AV.cells, AV.cell]
                           exact skip (fun _ _ _ => trivial) hm2
                     · intro hlt
                       have hqe : q = (nth S.cells (j : Int)).fs.length := by omega
                       subst hqe
                       simp [x0, x9]
                       refine ⟨y - 1, by omega, x1, fX, x7, j + 1, by omega, by rw [wrap64 (by omega) (by omega)]; simp, mo, cs, x8, mc, lc, hfa, fun hm i i0 i1 hi => ?_⟩
                       by_cases e : i = (j : Int)
                       · subst e; have := (hcl hm).2; rw [List.take_length] at this; exact this
                       · exact (hcl hm).1 i i0 (by simp at i1; omega) hi)
            · have skip := more (ext fun hi t htt => by
                exfalso
                have he : (nth S.cells (j : Int)).e = true := by
                  cases q : (nth S.cells (j : Int)).e with
                  | true => rfl
                  | false => exact absurd ⟨hi, q⟩ live
                rw [hd j (by omega) jS he] at htt; cases htt)
              cases ha : nth fr (j : Int) <;> cases hb : nth cs (j : Int) <;> cases hc : (nth S.cells (j : Int)).e <;> rw [ha, hb, hc] at live <;> first
                | (simp at live; done)
                | (simp [x0, x1, x7, x9, iaf, ldf, ias, lds, encB, ha, hb, hc, hX.ldc, iac, e1, e5]; simpa [x0, x1, x7] using skip)
          · intro hlt
            have hjn : j = S.cells.length := by omega
            simp
            cases mo with
            | true => exact ⟨falses cs + 1, by simp [one_] at hfa; omega, x0, x1, fX, x7, true, cs, x8, mc, lc, by simp, by simp⟩
            | false => exact ⟨0, by omega, x0, x1, fX, x7, false, cs, x8, mc, lc, by simp, fun _ => by rw [← hjn]; exact hcl rfl⟩
end
end Go.Am
