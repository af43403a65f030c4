/- Contract: Same of the program. -/
import Derived.Test.YtpdedphkjkhddaaAmHeapKs
set_option linter.unusedVariables false
set_option linter.unusedSimpArgs false
namespace Go.Am
variable {T : Tab}
/-- What a copy wants. -/
structure Cb (S : Hp) : Prop where
  len : S.cells.length ≤ 100
  fl : ∀ c ∈ S.cells, c.fs.length ≤ 8
  notes : S.notes.length < 2 ^ 39
  keys : Keys S.roots
  pos : ∀ e ∈ S.roots, 0 < e.2
theorem Mp.lenM {H : AHeap} {m : Nat} {es : List (AV × AV)} (h : Mp H m es) : rsem .lenM [.map (some m)] H = some (.int .i64 es.length) := by
  obtain ⟨st, h1, _⟩ := h
  simp [rsem, AHeap.ents, h1]
theorem rget_mem {es : List (Int × Int)} {k : Int} (h : rget es k ≠ 0) : (k, rget es k) ∈ es := by
  induction es with
  | nil => exact absurd rfl h
  | cons e r ih =>
    obtain ⟨a, w⟩ := e
    unfold rget at h ⊢
    by_cases ha : a = k
    · rw [if_pos ha]; simp [ha]
    · rw [if_neg ha] at h ⊢; simp [ih h]
theorem rget_of {es : List (Int × Int)} (hk : Keys es) {k v : Int} (h : (k, v) ∈ es) : rget es k = v := by
  induction es with
  | nil => cases h
  | cons e r ih =>
    obtain ⟨a, w⟩ := e
    obtain ⟨h1, h2⟩ := List.nodup_cons.1 hk
    unfold rget
    rcases List.mem_cons.1 h with h | h
    · cases h; rw [if_pos rfl]
    · rw [if_neg, ih h2 h]
      intro e
      subst e
      exact h1 (List.mem_map.2 ⟨_, h, rfl⟩)
theorem Keys.nd {es : List (Int × Int)} (h : Keys es) : es.Nodup := by
  induction es with
  | nil => simp
  | cons e r ih =>
    obtain ⟨h1, h2⟩ := List.nodup_cons.1 h
    exact List.nodup_cons.2 ⟨fun hm => h1 (List.mem_map.2 ⟨e, hm, rfl⟩), ih h2⟩
theorem mem_len {a c : List (Int × Int)} (ha : Keys a) (hc : Keys c) (h : ∀ e ∈ a, e ∈ c) (hl : a.length = c.length) : ∀ e ∈ c, e ∈ a := by
  intro e he
  apply Classical.byContradiction
  intro hn
  have := List.Nodup.length_le_of_subset (List.nodup_cons.2 ⟨hn, ha.nd⟩) (l₂ := c) (by
    intro x hx
    rcases List.mem_cons.1 hx with rfl | hx
    · exact he
    · exact h x hx)
  simp at this
  omega
/-- What two heaps have in common. -/
def Alike (S1 S2 : Hp) : Prop := S1.cells = S2.cells ∧ S1.notes = S2.notes ∧ ∀ e, e ∈ S1.roots ↔ e ∈ S2.roots
theorem c330 (D : D330 T) {k1 k2 k3 k4 : Nat} (n12 : k1 ≠ k2) (n13 : k1 ≠ k3) (n14 : k1 ≠ k4) (n23 : k2 ≠ k3) (n24 : k2 ≠ k4) (n34 : k3 ≠ k4) {tg : Tags} {H : AHeap} {b1 b2 : Nat} {S1 S2 : Hp} (hw : WF H) (hk : TagOk tg H) (h1 : HpR k1 tg H b1 0 S1) (h2 : HpR k2 tg H b2 0 S2) (c1 : Cb S1) (c2 : Cb S2) :
    Calls T 330 [.ptr (some (b1, 0)), .ptr (some (b2, 0))] H fun r K => ∃ t tg', r = .bool t ∧ (t = true ↔ Alike S1 S2) ∧ Ups (fun j => j = k1 ∨ j = k2 ∨ j = k3 ∨ j = k4) tg tg' H K ∧ HpR k1 tg' K b1 0 S1 ∧ HpR k2 tg' K b2 0 S2 := by
  refine Calls.fn D.pr D.fn ?_
  simp [ir330]
  refine WC.of (c328 D.d328 (k := k1) (k2 := k3) n13 hw hk h1 c1.len c1.fl c1.notes c1.keys) ?_
  rintro r K1 ⟨tg1, b3, rs1, rfl, u1, g1, g3, ks1, ms1⟩
  have g2 := u1.hp h2 hw (k := k2) (by omega)
  simp
  refine WC.of (c328 D.d328 (k := k2) (k2 := k4) n24 u1.wf u1.ok g2 c2.len c2.fl c2.notes c2.keys) ?_
  rintro r K2 ⟨tg2, b4, rs2, rfl, u2, g2', g4, ks2, ms2⟩
  have g1' := u2.hp g1 u1.wf (k := k1) (by omega)
  have g3' := u2.hp g3 u1.wf (k := k3) (by omega)
  have us : Ups (fun j => j = k1 ∨ j = k2 ∨ j = k3 ∨ j = k4) tg tg2 H K2 := (u1.mono (by omega)).trans hw (u2.mono (by omega))
  have wK := us.wf
  obtain ⟨fb3, m3, cv3, nv3, fc3, fn3, xs3, ff3, i3⟩ := g3'
  obtain ⟨fb4, m4, cv4, nv4, fc4, fn4, xs4, ff4, i4⟩ := g4
  obtain ⟨st, hm, ok⟩ := i3.mp
  have hml := i3.mp.lt wK
  obtain ⟨X9, p1, f9, rg, hnx⟩ := rng_start wK hm ok
  obtain ⟨ω, hω⟩ := D.nxt
  simp [i3.ldm]
  refine WC.of (Calls.prim (Q := fun v K => v = .ptr (some (K2.next, 0)) ∧ K = X9) D.rng p1 ⟨rfl, rfl⟩) ?_
  rintro r K9 ⟨rfl, rfl⟩
  obtain ⟨bi, hbi⟩ : ∃ bi, K2.next = bi := ⟨_, rfl⟩
  rw [hbi] at rg hnx
  rw [hbi]
  -- what the roots say
  have false_ : ∀ a v : Int, (a, v) ∈ rs1 → rget rs2 a ≠ v → ¬ Alike S1 S2 := by
    rintro a v ha hne ⟨_, _, h⟩
    exact hne (rget_of ks2 ((ms2 _).2 ((h _).1 ((ms1 _).1 ha))))
  simp
  refine W_loop (fun (z : Nat) e X => e 5 = .ptr (some (b3, 0)) ∧ e 6 = .ptr (some (b4, 0)) ∧ e 26 = .ptr (some (bi, 0)) ∧ Fr K2 X ∧ K9.next ≤ X.next ∧ ∃ V, Rg X bi m3 true (rs1.map encE) st V ∧ rest_ st V = z ∧ ∀ x ∈ V, ∀ a v : Int, x.2 = encE (a, v) → rget rs2 a = v) id (rest_ st []) ?_ ?_
  · exact ⟨by simp, by simp, by simp, f9, Nat.le_refl _, [], rg, rfl, by simp⟩
  · rintro z e X ⟨x5, x6, x26, fX, hle, V, rg, hz, hV⟩
    obtain ⟨X', w1, w2, hcase⟩ := rg.next (by omega) fX.wf ω
    have fX' : Fr K2 X' := fX.step w1 w2 fun g hg => by omega
    have j3 := i3.keeps (tg' := tg2) wK fX'.keeps fun g t hg htg => ⟨by omega, htg⟩
    have j4 := i4.keeps (tg' := tg2) wK fX'.keeps fun g t hg htg => ⟨by omega, htg⟩
    have done : ∀ Y, Fr K2 Y → ∃ tg', Ups (fun j => j = k1 ∨ j = k2 ∨ j = k3 ∨ j = k4) tg tg' H Y ∧ HpR k1 tg' Y b1 0 S1 ∧ HpR k2 tg' Y b2 0 S2 := fun Y fY =>
      ⟨tg2, us.trans hw (Ups.fr wK us.ok fY), g1'.fr wK fY, g2'.fr wK fY⟩
    rcases hcase with ⟨q1, q2⟩ | ⟨z0, q1, q2, q3, q4, q5⟩
    · simp [x26]
      refine WC.of (Calls.prim (Q := fun v Y => v = .tup [.bool false] ∧ Y = X') hω q1 ⟨rfl, rfl⟩) ?_
      rintro r Y ⟨rfl, rfl⟩
      have all : ∀ a v : Int, (a, v) ∈ rs1 → rget rs2 a = v := by
        intro a v he
        have e2 : (List.zip st.1 (rs1.map encE)).map (·.2) = rs1.map encE := List.map_snd_zip (by rw [ok.len]; exact Nat.le_refl _)
        have : encE (a, v) ∈ (List.zip st.1 (rs1.map encE)).map (·.2) := by rw [e2]; exact List.mem_map_of_mem he
        obtain ⟨x, hx, hxe⟩ := List.mem_map.1 this
        exact hV x (q2.mem_iff.2 hx) a v hxe
      have sub : ∀ e ∈ rs1, e ∈ rs2 := by
        rintro ⟨a, v⟩ he
        have h0 := c1.pos _ ((ms1 _).1 he)
        have h1 := all a v he
        have := rget_mem (es := rs2) (k := a) (by rw [h1]; simp only at h0; omega)
        rwa [h1] at this
      have lm3 := j3.mp.lenM
      have lm4 := j4.mp.lenM
      simp only [List.length_map] at lm3 lm4
      have roots : (rs1.length = rs2.length) ↔ ∀ e, e ∈ S1.roots ↔ e ∈ S2.roots := by
        constructor
        · intro hl e
          have := mem_len ks1 ks2 sub hl
          rw [← ms1, ← ms2]
          exact ⟨sub e, this e⟩
        · intro h
          have h' : ∀ e, e ∈ rs1 ↔ e ∈ rs2 := fun e => by rw [ms1, ms2, h]
          have a := List.Nodup.length_le_of_subset ks1.nd (l₂ := rs2) fun x hx => (h' x).1 hx
          have b := List.Nodup.length_le_of_subset ks2.nd (l₂ := rs1) fun x hx => (h' x).2 hx
          omega
      by_cases hl : rs1.length = rs2.length
      · have hl' : ((rs1.length : Int) = rs2.length) := by omega
        simp [x5, x6, j3.ldm, j4.ldm, lm3, lm4, hl, j3.ldc, j4.ldc]
        have fx : ∀ x ∈ xs3, Sl encF 3 Y x.1 x.2.fs := fun x hx => by
          obtain ⟨i, hi, rfl⟩ := mem_nth hx
          exact (j3.fs i _ (by have := nth_eq (l := xs3) (i := (i : Int)) (by omega) (by omega); simpa using this)).1.1
        have fy : ∀ x ∈ xs4, Sl encF 3 Y x.1 x.2.fs := fun x hx => by
          obtain ⟨i, hi, rfl⟩ := mem_nth hx
          exact (j4.fs i _ (by have := nth_eq (l := xs4) (i := (i : Int)) (by omega) (by omega); simpa using this)).1.1
        have lx := j3.len
        have l100 := c1.len
        simp only at lx
        refine WC.of (c363 D.d363 D.d364 w1 j3.cs.1 j4.cs.1 fx fy (by omega) (fun x hx => ?_)) ?_
        · have : x.2 ∈ S1.cells := by have h := j3.xc; simp only at h; rw [← h]; exact List.mem_map_of_mem hx
          have := c1.fl _ this
          omega
        rintro r Z ⟨fZ, rfl⟩
        have z3 := j3.keeps (tg' := tg2) w1 fZ.keeps fun g t hg htg => ⟨by omega, htg⟩
        have z4 := j4.keeps (tg' := tg2) w1 fZ.keeps fun g t hg htg => ⟨by omega, htg⟩
        have xc3 : xs3.map (·.2) = S1.cells := j3.xc
        have xc4 : xs4.map (·.2) = S2.cells := j4.xc
        rw [xc3, xc4]
        by_cases hcl : S1.cells = S2.cells
        · simp [x5, x6, hcl, z3.ldn, z4.ldn]
          have n1 := z3.ns.1
          have n2 := z4.ns.1
          have hn := c1.notes
          simp only at n1 n2
          refine WC.of (c365 D.d365 n1 n2 (by omega)) ?_
          rintro r Z2 ⟨rfl, rfl⟩
          obtain ⟨tg', d1, d2, d3⟩ := done _ (fX'.trans fZ)
          simp
          by_cases hnn : S1.notes = S2.notes
          · exact .inr ⟨hnn, ⟨hcl, hnn, roots.1 hl⟩, tg', d1, d2, d3⟩
          · exact .inl ⟨hnn, fun h => hnn h.2.1, tg', d1, d2, d3⟩
        · obtain ⟨tg', d1, d2, d3⟩ := done _ (fX'.trans fZ)
          simp [x5, x6, hcl]
          exact ⟨fun h => hcl h.1, tg', d1, d2, d3⟩
      · have hl' : ¬((rs1.length : Int) = rs2.length) := by omega
        obtain ⟨tg', d1, d2, d3⟩ := done _ fX'
        simp [x5, x6, j3.ldm, j4.ldm, lm3, lm4, hl, hl', j3.ldc, j4.ldc]
        exact ⟨fun h => hl (roots.2 h.2.2), tg', d1, d2, d3⟩
    · simp [x26]
      refine WC.of (Calls.prim (Q := fun v Y => v = .tup [.bool true, z0.2.1, z0.2.2] ∧ Y = X') hω q3 ⟨rfl, rfl⟩) ?_
      rintro r Y ⟨rfl, rfl⟩
      obtain ⟨c, key, val⟩ := z0
      have hz0 : (key, val) ∈ rs1.map encE := (List.of_mem_zip q1).2
      obtain ⟨⟨ka, va⟩, he, hee⟩ := List.mem_map.1 hz0
      simp only [encE, Prod.mk.injEq] at hee
      obtain ⟨rfl, rfl⟩ := hee
      have hls := rg.less q1 q2
      have lk := j4.look ka
      simp only at lk
      by_cases hg : rget rs2 ka = va
      · simp [x26, q5, x6, j4.ldm, lk, hg]
        have fin : ∃ j, j < z ∧ Fr K2 Y ∧ K9.next ≤ Y.next ∧ ∃ V, Rg Y bi m3 true (rs1.map encE) st V ∧ rest_ st V = j ∧ ∀ x ∈ V, ∀ a v : Int, x.2 = encE (a, v) → rget rs2 a = v :=
          ⟨_, by omega, fX', by have := w2.next; omega, _, q4, rfl, fun x hx a v hxe => by
            rcases List.mem_append.1 hx with hx | hx
            · exact hV x hx a v hxe
            · rw [List.mem_singleton] at hx
              subst hx
              simp [encE] at hxe
              rw [← hxe.1, ← hxe.2]; exact hg⟩
        simpa [x5] using fin
      · obtain ⟨tg', d1, d2, d3⟩ := done _ fX'
        simp [x26, q5, x6, j4.ldm, lk, hg]
        exact ⟨false_ ka va he hg, tg', d1, d2, d3⟩
end Go.Am
