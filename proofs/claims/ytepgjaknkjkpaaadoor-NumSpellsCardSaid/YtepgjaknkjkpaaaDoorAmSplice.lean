/- Contracts: a part of a list is replaced. -/
import Derived.Test.YtepgjaknkjkpaaaDoorAmParts
set_option linter.unusedVariables false
set_option linter.unusedSimpArgs false
namespace Go.Am
variable {T : Tab}

@[simp] theorem nat_neg {n : Nat} : ((n : Int) < 0) = False := by simp

theorem wsem0_grow {sz bytes sv len : Nat} {z : List AV} {p : Option (Nat × Nat)} {cap : Option Nat} {k : IntKind} {n : Int} {H : AHeap} :
    wsem0 (.grow sz bytes z) [.slc p sv len cap, .int k n] H = if 0 ≤ n ∧ n * bytes ≤ 2 ^ 46 ∧ n ≤ 2 ^ 60 then H.app sz bytes p sv len cap n.toNat (List.replicate n.toNat z).flatten else none := rfl

/-- A nil slice with room. -/
theorem grow_nil {H : AHeap} (hw : WF H) {n : Nat} (h0 : 0 < n) (h1 : n ≤ 2 ^ 30) {z : AV} (hz : z.cell = true) :
    wsem0 (.grow 1 16 [z]) [.slc none 0 0 none, .int .i64 (n : Int)] H = some (.slc (some (H.next, 0)) 1 n none, H.new (List.replicate n z)) := by
  have e : (List.replicate n [z]).flatten = List.replicate n z := by simp [List.flatten_replicate_singleton]
  rw [wsem0_grow, if_pos ⟨by omega, by omega, by omega⟩, Int.toNat_natCast, e]
  unfold AHeap.app
  rw [if_neg (by omega), if_neg]
  simp [hz]
  omega

@[simp] theorem psem_cap0 {z n : Nat} {c : Option Nat} : psem .cap [.slc none z n c] = some (.int .i64 0) := by cases c <;> rfl

theorem c175 (D : D175 T) {H : AHeap} (hw : WF H) {n : Nat} (h1 : n ≤ 2 ^ 30) : Calls T 175 [.slc none 0 0 none, .int .i64 (n : Int)] H fun r H' => Fr H H' ∧ Made encS 1 H.next H' r [] := by
  refine Calls.fn D.pr D.fn ?_
  simp (disch := omega) [ir175, show ¬ (n : Int) < 0 by omega, wrap64]
  refine WB.bool ?_ ?_
  · intro h
    simp at h
    have g := grow_nil hw h h1 (z := .str []) rfl
    simp [psem, slice, bound, natOf, limOf, leO, capOf, g]
    refine ⟨hw.fr_new, some H.next, ?_, by simp⟩
    have := hw.own_new (enc := encS) (sz := 1) (l := []) (cs := List.replicate n (.str [])) (cap := none) (by simp) (by simp) (by simp) (by simp)
    simpa using this
  · intro h
    simp at h
    simp
    exact ⟨.refl hw, .nil⟩

theorem take_flat_le {α : Type} (ls : List (List α)) (j : Nat) : (ls.take j).flatten.length ≤ ls.flatten.length := by
  have : ls.flatten.length = (ls.take j).flatten.length + (ls.drop j).flatten.length := by
    rw [← List.length_append, ← List.flatten_append, List.take_append_drop]
  omega

theorem c154 (D : D154 T) {H : AHeap} (hw : WF H) {v : AV} {vs : List AV} {ls : List (List (List UInt8))} (hv : Sl encA 1 H v vs) (hl : vs.length = ls.length) (he : ∀ i, i < vs.length → Sl encS 1 H (encA (nth vs i)) (nth ls i)) (hn : ls.flatten.length ≤ 2 ^ 28) (hvl : vs.length ≤ 2 ^ 28) :
    Calls T 154 [v] H fun r H' => Fr H H' ∧ Made encS 1 H.next H' r ls.flatten := by
  refine Calls.fn D.pr D.fn ?_
  simp [ir154, hv.len]
  refine W_loop (fun (i : Nat) e K => K = H ∧ e 0 = v ∧ e 9 = v ∧ e 10 = .int .i64 vs.length ∧ ∃ j : Nat, i + j = vs.length ∧ e 11 = .int .i64 j ∧ ∃ s : Nat, e 3 = .int .i64 s ∧ s = (ls.take j).flatten.length) id vs.length ?_ ?_
  · exact ⟨rfl, by simp, by simp, by simp, 0, by simp, by simp, 0, by simp, by simp⟩
  · rintro i e K ⟨rfl, h0, h9, h10, j, hj, h11, s, h3, hs⟩
    simp [h10, h11]
    refine WB.bool ?_ ?_
    · intro hlt
      simp at hlt
      have ld := hv.ld (i := (j : Int)) (by omega) (by omega)
      have hx := he j hlt
      have et : (ls.take (j + 1)).flatten.length = (ls.take j).flatten.length + (nth ls (j : Int)).length := by rw [take_nth (by omega)]; simp
      have hle := take_flat_le ls (j + 1)
      simp (disch := omega) [h0, h3, h9, h10, h11, hv.ia, ld, hx.len, wrap64, show ¬ ((s : Int) + (nth ls (j : Int)).length < 0) by omega]
      refine ⟨i - 1, by omega, j + 1, by omega, by omega, ?_⟩
      simp only [List.length_flatten, List.map_take] at et hs
      omega
    · intro hlt
      simp at hlt
      rw [List.take_of_length_le (by omega)] at hs
      simp [h3]
      refine WC.of (c175 D.d175 hw (n := s) (by omega)) ?_
      rintro r H1 ⟨f1, m1⟩
      simp [h0, hv.len]
      refine W_loop (fun (i : Nat) e X => Fr K X ∧ e 25 = v ∧ e 26 = .int .i64 vs.length ∧ ∃ j : Nat, i + j = vs.length ∧ e 27 = .int .i64 j ∧ ∃ ov, e 6 = ov ∧ Made encS 1 K.next X ov (ls.take j).flatten) id vs.length ?_ ?_
      · exact ⟨f1, by simp, by simp, 0, by simp, by simp, r, by simp, by simpa using m1⟩
      · rintro i e X ⟨f2, h25, h26, j, hj, h27, ov, h6, mo⟩
        simp [h26, h27]
        refine WB.bool ?_ ?_
        · intro hlt
          simp at hlt
          have hv' := hv.fr hw f2
          have ld := hv'.ld (i := (j : Int)) (by omega) (by omega)
          have hx := (he j hlt).fr hw f2
          have et : (ls.take (j + 1)).flatten = (ls.take j).flatten ++ nth ls (j : Int) := by rw [take_nth (by omega)]; simp
          have hle := take_flat_le ls (j + 1)
          rw [et] at hle
          simp only [List.length_append] at hle
          obtain ⟨v2, K2, q1, q2, q3, q4⟩ := app_n (bytes := 16) f2.wf f2.next mo hx (by simp) (Cell.all _) (by omega) (by omega)
          simp (disch := omega) [h25, h26, h27, h6, hv'.ia, ld, q1, wrap64]
          refine ⟨i - 1, by omega, f2.step q2 q3 fun g h => h, j + 1, by omega, by omega, ?_⟩
          rw [et]; exact q4
        · intro hlt
          simp at hlt
          simp [h6]
          rw [List.take_of_length_le (by omega)] at mo
          exact ⟨f2, mo⟩

def spliceR (l : List (List UInt8)) (fr n : Int) (b : List (List UInt8)) : List (List UInt8) × List (List UInt8) × Int :=
  if 200 < l.length ∨ 200 < b.length then ([], [], 3) else
  if (if fr < 0 then fr + l.length else fr) < 0 ∨ (l.length : Int) < (if fr < 0 then fr + l.length else fr) then ([], [], 1) else
  let f := if fr < 0 then fr + l.length else fr
  let k := min (if n < 0 then max 0 ((l.length : Int) - f + n) else n) ((l.length : Int) - f)
  if 200 < (l.take f.toNat ++ b ++ l.drop (f + k).toNat).length then ([], [], 3) else
  (l.take f.toNat ++ b ++ l.drop (f + k).toNat, (l.take (f + k).toNat).drop f.toNat, 0)

theorem spliceR_bad {l b : List (List UInt8)} {fr n f : Int} (h1 : ¬ (200 < l.length ∨ 200 < b.length)) (hf : (if fr < 0 then fr + l.length else fr) = f) (hb : f < 0 ∨ (l.length : Int) < f) : spliceR l fr n b = ([], [], 1) := by
  unfold spliceR
  rw [if_neg h1, hf, if_pos hb]

theorem spliceR_eq {l b : List (List UInt8)} {fr n : Int} {k m : Nat} (h1 : ¬ (200 < l.length ∨ 200 < b.length)) (hf : (if fr < 0 then fr + l.length else fr) = (k : Int)) (hk : k ≤ l.length)
    (hN : min (if n < 0 then max 0 ((l.length : Int) - k + n) else n) ((l.length : Int) - k) = (m : Int)) :
    spliceR l fr n b = if 200 < (l.take k ++ b ++ l.drop (k + m)).length then ([], [], 3) else (l.take k ++ b ++ l.drop (k + m), (l.take (k + m)).drop k, 0) := by
  unfold spliceR
  rw [if_neg h1, hf, if_neg (by omega)]
  simp only [hN, Int.toNat_natCast]
  rw [show ((k : Int) + (m : Int)).toNat = k + m by omega]

/-- What is cut, and where. -/
theorem splice_at {l : List (List UInt8)} {fr n f : Int} (hf : (if fr < 0 then fr + (l.length : Int) else fr) = f) (hb : ¬ (f < 0 ∨ (l.length : Int) < f)) :
    ∃ k m : Nat, f = k ∧ k + m ≤ l.length ∧ min (if n < 0 then max 0 ((l.length : Int) - k + n) else n) ((l.length : Int) - k) = (m : Int) := by
  obtain ⟨k, rfl⟩ : ∃ k : Nat, f = k := ⟨f.toNat, by omega⟩
  obtain ⟨N, hN⟩ : ∃ N, min (if n < 0 then max 0 ((l.length : Int) - k + n) else n) ((l.length : Int) - k) = N := ⟨_, rfl⟩
  have : 0 ≤ N ∧ N ≤ (l.length : Int) - k := by split at hN <;> omega
  exact ⟨k, N.toNat, rfl, by omega, by rw [hN]; omega⟩

theorem spliceR_len {l : List (List UInt8)} {fr n : Int} {b : List (List UInt8)} : (spliceR l fr n b).1.length ≤ 200 ∧ (spliceR l fr n b).2.1.length ≤ 200 := by
  by_cases h1 : 200 < l.length ∨ 200 < b.length
  · unfold spliceR; rw [if_pos h1]; simp
  obtain ⟨f, hf⟩ : ∃ f, (if fr < 0 then fr + (l.length : Int) else fr) = f := ⟨_, rfl⟩
  by_cases hbad : f < 0 ∨ (l.length : Int) < f
  · rw [spliceR_bad h1 hf hbad]; simp
  obtain ⟨k, m, rfl, hkm, hN⟩ := splice_at (n := n) hf hbad
  rw [spliceR_eq h1 hf (by omega) hN]
  split
  · simp
  · refine ⟨?_, ?_⟩
    · simp only; omega
    · simp only [List.length_drop, List.length_take]
      omega

theorem c123 (D : D123 T) {H : AHeap} (hw : WF H) {u v : AV} {l b : List (List UInt8)} {fr n : Int} (hu : Sl encS 1 H u l) (hv : Sl encS 1 H v b) (hl : l.length < 2 ^ 63) (hb : b.length < 2 ^ 63)
    (hfr : -9223372036854775808 ≤ fr ∧ fr < 9223372036854775808) (hn : -9223372036854775808 ≤ n ∧ n < 9223372036854775808) :
    Calls T 123 [u, .int .i64 fr, .int .i64 n, v] H fun r H' => Fr H H' ∧ ∃ x y, r = .tup [x, y, .int .i64 (spliceR l fr n b).2.2] ∧ Made encS 1 H.next H' x (spliceR l fr n b).1 ∧ Made encS 1 H.next H' y (spliceR l fr n b).2.1 := by
  refine Calls.fn D.pr D.fn ?_
  by_cases h1 : 200 < l.length
  · simp [ir123, hu.len, hv.len, spliceR, h1, show (200 : Int) < l.length by omega]
    exact ⟨.refl hw, _, _, ⟨rfl, rfl⟩, .nil, .nil⟩
  by_cases h2 : 200 < b.length
  · simp [ir123, hu.len, hv.len, spliceR, h1, h2, show ¬ (200 : Int) < l.length by omega, show (200 : Int) < b.length by omega]
    exact ⟨.refl hw, _, _, ⟨rfl, rfl⟩, .nil, .nil⟩
  have h12 : ¬ (200 < l.length ∨ 200 < b.length) := by omega
  obtain ⟨f, hf⟩ : ∃ f, (if fr < 0 then fr + (l.length : Int) else fr) = f := ⟨_, rfl⟩
  have hf1 : -9223372036854775808 ≤ f ∧ f < 9223372036854775808 := by split at hf <;> omega
  by_cases hbad : f < 0 ∨ (l.length : Int) < f
  · rw [spliceR_bad h12 hf hbad]
    by_cases c : fr < 0
    · simp only [c, if_true] at hf
      by_cases d : f < 0
      · simp (disch := omega) [ir123, hu.len, hv.len, show ¬ (200 : Int) < l.length by omega, show ¬ (200 : Int) < b.length by omega, c, d, hf, wrap64]
        exact ⟨.refl hw, _, _, ⟨rfl, rfl⟩, .nil, .nil⟩
      · simp (disch := omega) [ir123, hu.len, hv.len, show ¬ (200 : Int) < l.length by omega, show ¬ (200 : Int) < b.length by omega, c, d, hf, wrap64, show (l.length : Int) < f by omega]
        exact ⟨.refl hw, _, _, ⟨rfl, rfl⟩, .nil, .nil⟩
    · simp only [c, if_false] at hf
      subst hf
      simp (disch := omega) [ir123, hu.len, hv.len, show ¬ (200 : Int) < l.length by omega, show ¬ (200 : Int) < b.length by omega, c, wrap64, show (l.length : Int) < fr by omega]
      exact ⟨.refl hw, _, _, ⟨rfl, rfl⟩, .nil, .nil⟩
  · obtain ⟨k, m, rfl, hkm, hN⟩ := splice_at (n := n) hf hbad
    rw [spliceR_eq h12 hf (by omega) hN]
    obtain ⟨va, _, _, ca, ra, _, _⟩ := hu.cut 0 k (by omega) (by omega)
    obtain ⟨vb, _, cb, _, rb, _, _⟩ := hu.cut (k + m) l.length (by omega) (by omega)
    obtain ⟨vc, cc, _, _, rc, _, _⟩ := hu.cut k (k + m) (by omega) (by omega)
    have ca := fun kk => ca kk rfl
    have cb := fun kk => cb kk rfl
    simp only [Int.natCast_add] at cb cc
    simp only [List.drop_zero, List.take_length] at ra rb
    obtain ⟨v1, H1, q1, w1, k1, m1⟩ := app_n (bytes := 16) hw (Nat.le_refl _) (.nil : Made encS 1 H.next H (.slc none 0 0 none) []) ra (by simp) (Cell.all _) (by simp; omega) (by simp; omega)
    have f1 : Fr H H1 := ⟨w1, k1⟩
    obtain ⟨v2, H2, q2, w2, k2, m2⟩ := app_n (bytes := 16) w1 f1.next m1 (hv.fr hw f1) (by simp) (Cell.all _) (by simp; omega) (by simp; omega)
    have f2 : Fr H H2 := f1.step w2 k2 fun g h => h
    obtain ⟨v3, H3, q3, w3, k3, m3⟩ := app_n (bytes := 16) w2 f2.next m2 (rb.fr hw f2) (by simp) (Cell.all _) (by simp; omega) (by simp; omega)
    have f3 : Fr H H3 := f2.step w3 k3 fun g h => h
    rw [List.nil_append] at m3
    obtain ⟨v4, H4, q4, w4, k4, m4⟩ := app_n (bytes := 16) w3 (Nat.le_refl _) (.nil : Made encS 1 H3.next H3 (.slc none 0 0 none) []) (rc.fr hw f3) (by simp) (Cell.all _) (by simp; omega) (by simp; omega)
    have f4 : Fr H H4 := f3.step w4 k4 fun g h => Nat.le_trans f3.next h
    have m3' : Made encS 1 H.next H4 v3 (l.take k ++ b ++ l.drop (k + m)) := m3.keeps w3 k4 fun g _ h2 h3 => by omega
    rw [List.nil_append] at m4
    have m4' := m4.mono f3.next
    have hlen := m3.sl.len
    generalize l.take k ++ b ++ l.drop (k + m) = out at m3 m3' hlen ⊢
    have b1 : ¬ (200 : Int) < l.length := by omega
    have b2 : ¬ (200 : Int) < b.length := by omega
    have b3 : ¬ (l.length : Int) < k := by omega
    have fin1 : 200 < out.length → (200 : Int) < out.length := by omega
    have fin0 : ¬ 200 < out.length → ¬ (200 : Int) < out.length := by omega
    by_cases cn : n < 0
    · simp only [cn, if_true] at hN
      have hN' : min (max 0 ((l.length : Int) - k + max n (-(l.length : Int)))) ((l.length : Int) - k) = (m : Int) := by omega
      by_cases c : fr < 0 <;> simp only [c, if_true, if_false] at hf <;> (try rw [hf] at c) <;> by_cases h3 : 200 < out.length
      · simp (disch := omega) [ir123, hu.len, hv.len, b1, b2, c, hf, b3, wrap64, cn, hN', ca, cb, cc, q1, q2, q3, q4, hlen, h3, fin1 h3]
        exact ⟨f3, _, _, ⟨rfl, rfl⟩, .nil, .nil⟩
      · simp (disch := omega) [ir123, hu.len, hv.len, b1, b2, c, hf, b3, wrap64, cn, hN', ca, cb, cc, q1, q2, q3, q4, hlen, h3, fin0 h3]
        exact ⟨f4, _, _, ⟨rfl, rfl⟩, m3', m4'⟩
      · simp (disch := omega) [ir123, hu.len, hv.len, b1, b2, c, hf, b3, wrap64, cn, hN', ca, cb, cc, q1, q2, q3, q4, hlen, h3, fin1 h3]
        exact ⟨f3, _, _, ⟨rfl, rfl⟩, .nil, .nil⟩
      · simp (disch := omega) [ir123, hu.len, hv.len, b1, b2, c, hf, b3, wrap64, cn, hN', ca, cb, cc, q1, q2, q3, q4, hlen, h3, fin0 h3]
        exact ⟨f4, _, _, ⟨rfl, rfl⟩, m3', m4'⟩
    · simp only [cn, if_false] at hN
      by_cases c : fr < 0 <;> simp only [c, if_true, if_false] at hf <;> (try rw [hf] at c) <;> by_cases h3 : 200 < out.length
      · simp (disch := omega) [ir123, hu.len, hv.len, b1, b2, c, hf, b3, wrap64, cn, hN, ca, cb, cc, q1, q2, q3, q4, hlen, h3, fin1 h3]
        exact ⟨f3, _, _, ⟨rfl, rfl⟩, .nil, .nil⟩
      · simp (disch := omega) [ir123, hu.len, hv.len, b1, b2, c, hf, b3, wrap64, cn, hN, ca, cb, cc, q1, q2, q3, q4, hlen, h3, fin0 h3]
        exact ⟨f4, _, _, ⟨rfl, rfl⟩, m3', m4'⟩
      · simp (disch := omega) [ir123, hu.len, hv.len, b1, b2, c, hf, b3, wrap64, cn, hN, ca, cb, cc, q1, q2, q3, q4, hlen, h3, fin1 h3]
        exact ⟨f3, _, _, ⟨rfl, rfl⟩, .nil, .nil⟩
      · simp (disch := omega) [ir123, hu.len, hv.len, b1, b2, c, hf, b3, wrap64, cn, hN, ca, cb, cc, q1, q2, q3, q4, hlen, h3, fin0 h3]
        exact ⟨f4, _, _, ⟨rfl, rfl⟩, m3', m4'⟩

theorem c124 (D : D124 T) {H : AHeap} (hw : WF H) {u v : AV} {l b : List (List UInt8)} {fr n : Int} (hu : Sl encS 1 H u l) (hv : Sl encS 1 H v b) (hl : l.length < 2 ^ 63) (hb : b.length < 2 ^ 63)
    (hfr : -9223372036854775808 ≤ fr ∧ fr < 9223372036854775808) (hn : -9223372036854775808 ≤ n ∧ n < 9223372036854775808) :
    Calls T 124 [u, .int .i64 fr, .int .i64 n, v] H fun r H' => Fr H H' ∧ ∃ x y, r = .tup [x, y, .int .i64 (spliceR l fr n b).2.2] ∧ Made encS 1 H.next H' x (spliceR l fr n b).1 ∧ Made encS 1 H.next H' y (spliceR l fr n b).2.1 := by
  refine Calls.fn D.pr D.fn ?_
  by_cases h1 : 200 < l.length
  · simp [ir124, hu.len, hv.len, spliceR, h1, show (200 : Int) < l.length by omega]
    exact ⟨.refl hw, _, _, ⟨rfl, rfl⟩, .nil, .nil⟩
  by_cases h2 : 200 < b.length
  · simp [ir124, hu.len, hv.len, spliceR, h1, h2, show ¬ (200 : Int) < l.length by omega, show (200 : Int) < b.length by omega]
    exact ⟨.refl hw, _, _, ⟨rfl, rfl⟩, .nil, .nil⟩
  have h12 : ¬ (200 < l.length ∨ 200 < b.length) := by omega
  obtain ⟨f, hf⟩ : ∃ f, (if fr < 0 then fr + (l.length : Int) else fr) = f := ⟨_, rfl⟩
  have hf1 : -9223372036854775808 ≤ f ∧ f < 9223372036854775808 := by split at hf <;> omega
  by_cases hbad : f < 0 ∨ (l.length : Int) < f
  · rw [spliceR_bad h12 hf hbad]
    by_cases c : fr < 0
    · simp only [c, if_true] at hf
      by_cases d : f < 0
      · simp (disch := omega) [ir124, hu.len, hv.len, show ¬ (200 : Int) < l.length by omega, show ¬ (200 : Int) < b.length by omega, c, d, hf, wrap64]
        exact ⟨.refl hw, _, _, ⟨rfl, rfl⟩, .nil, .nil⟩
      · simp (disch := omega) [ir124, hu.len, hv.len, show ¬ (200 : Int) < l.length by omega, show ¬ (200 : Int) < b.length by omega, c, d, hf, wrap64, show (l.length : Int) < f by omega]
        exact ⟨.refl hw, _, _, ⟨rfl, rfl⟩, .nil, .nil⟩
    · simp only [c, if_false] at hf
      subst hf
      simp (disch := omega) [ir124, hu.len, hv.len, show ¬ (200 : Int) < l.length by omega, show ¬ (200 : Int) < b.length by omega, c, wrap64, show (l.length : Int) < fr by omega]
      exact ⟨.refl hw, _, _, ⟨rfl, rfl⟩, .nil, .nil⟩
  · obtain ⟨k, m, rfl, hkm, hN⟩ := splice_at (n := n) hf hbad
    rw [spliceR_eq h12 hf (by omega) hN]
    obtain ⟨va, _, _, ca, ra, _, _⟩ := hu.cut 0 k (by omega) (by omega)
    obtain ⟨vb, _, cb, _, rb, _, _⟩ := hu.cut (k + m) l.length (by omega) (by omega)
    obtain ⟨vc, cc, _, _, rc, _, _⟩ := hu.cut k (k + m) (by omega) (by omega)
    have ca := fun kk => ca kk rfl
    have cb := fun kk => cb kk rfl
    simp only [Int.natCast_add] at cb cc
    simp only [List.drop_zero, List.take_length] at ra rb
    have fva := ra.form
    have fvb := rb.form
    have fv := hv.form
    have fw : Fr H (H.new [va, v, vb]) := hw.fr_new
    have o3 := hw.own_new (enc := encA) (sz := 1) (l := [va, v, vb]) (cs := [va, v, vb]) (cap := some 3) (Cell.len _) (by simp) (by simp) (by simp [encA, fva, fvb, fv])
    have el : ∀ i, i < [va, v, vb].length → Sl encS 1 (H.new [va, v, vb]) (encA (nth [va, v, vb] i)) (nth [l.take k, b, l.drop (k + m)] i) := by
      intro i hi
      match i, hi with
      | 0, _ => simpa [nth, encA, fva] using ra.fr hw fw
      | 1, _ => simpa [nth, encA, fv] using hv.fr hw fw
      | 2, _ => simpa [nth, encA, fvb] using rb.fr hw fw
    have call : Calls T 154 [.slc (some (H.next, 0)) 1 3 (some 3)] (H.new [va, v, vb]) fun r H' => Fr (H.new [va, v, vb]) H' ∧ Made encS 1 (H.new [va, v, vb]).next H' r (l.take k ++ b ++ l.drop (k + m)) := by
      refine (c154 D.d154 hw.new o3.sl rfl el (by simp; omega) (by simp)).imp ?_
      rintro r H' ⟨f1, m1⟩
      exact ⟨f1, by simpa using m1⟩
    have hb3 := wsem0_bsl3 (z1 := .slc none 0 0 none) (z2 := .slc none 0 0 none) (z3 := .slc none 0 0 none) (H := H) fva.1 fv.1 fvb.1
    generalize l.take k ++ b ++ l.drop (k + m) = out at call ⊢
    have b1 : ¬ (200 : Int) < l.length := by omega
    have b2 : ¬ (200 : Int) < b.length := by omega
    have b3 : ¬ (l.length : Int) < k := by omega
    have key : ∀ {os : List AOper} {d : Option Nat} {e : Env} {kk : List Fm} {R : AExit → AState → Prop}, True := trivial
    by_cases cn : n < 0 <;> simp only [cn, if_true, if_false] at hN <;> by_cases c : fr < 0 <;> simp only [c, if_true, if_false] at hf <;> (try rw [hf] at c)
    all_goals
      simp (disch := omega) [ir124, hu.len, hv.len, b1, b2, c, hf, b3, wrap64, cn, hN, ca, cb, cc, hb3]
      refine WC.of call ?_
      rintro r H1 ⟨f1, m1⟩
      have f01 := fw.trans f1
      simp [m1.sl.len]
      refine WC.of (c148 D.d148) ?_
      rintro r2 H2 ⟨rfl, rfl⟩
      by_cases h3 : 200 < out.length
      · simp [h3, show (200 : Int) < out.length by omega]
        exact ⟨f01, _, _, ⟨rfl, rfl⟩, .nil, .nil⟩
      · simp (disch := omega) [h3, show ¬ (200 : Int) < out.length by omega, cc, wrap64]
        refine WC.of (c153 D.d153 f1.wf (rc.fr hw f01) (by simp; omega)) ?_
        rintro r3 H3 ⟨f3, m3⟩
        simp
        exact ⟨f01.trans f3, _, _, ⟨rfl, rfl⟩, (m1.fr f1.wf f3).mono fw.next, m3.mono f01.next⟩

theorem Box.ldn {H : AHeap} {b f : Nat} {cs : List AV} (h : Box H b f cs) {i : Nat} {x : AV} (hx : cs[i]? = some x) : rsem (.ld 1 false) [.ptr (some (b, i))] H = some x := by
  have hi : i < cs.length := (List.getElem?_eq_some_iff.1 hx).1
  have e : ((cs.drop i).take 1)[0]? = some x := by rw [List.getElem?_take, if_pos (by omega), List.getElem?_drop]; simpa using hx
  simp only [rsem, AHeap.ld, h.row]
  rw [if_pos (by omega)]
  exact e

theorem c106 (D : D106 T) {H : AHeap} (hw : WF H) {u v : AV} {l b : List (List UInt8)} {fr n : Int} (hu : Sl encS 1 H u l) (hv : Sl encS 1 H v b) (hl : l.length < 2 ^ 63) (hb : b.length < 2 ^ 63)
    (hfr : -9223372036854775808 ≤ fr ∧ fr < 9223372036854775808) (hn : -9223372036854775808 ≤ n ∧ n < 9223372036854775808) :
    Calls T 106 [.agg [u, v], .int .i64 fr, .int .i64 n] H fun r _ => r = .bool true := by
  refine Calls.fn D.pr D.fn ?_
  have known : ∀ {X : AHeap}, WF X → Calls T 112 [] X fun v _ => v = .bool true := fun h => c112 D.d112 h
  have f0 : Fr H (H.new [u, v]) := hw.fr_new
  have bx : Box (H.new [u, v]) H.next H.next [u, v] := Box.new
  have l0 := bx.ldn (i := 0) rfl
  have l1 := bx.ldn (i := 1) rfl
  simp [ir106, AV.cells, hu.form, hv.form, l0]
  refine WC.of (c114 D.d114 (hu.fr hw f0) (by omega)) ?_
  rintro r H' ⟨rfl, b1, rfl⟩
  cases b1 with
  | true =>
    simp
    refine WC.of (known f0.wf) ?_
    rintro v H' rfl
    simp
  | false =>
    simp [l1]
    refine WC.of (c114 D.d114 (hv.fr hw f0) (by omega)) ?_
    rintro r H' ⟨rfl, b1, rfl⟩
    cases b1 with
    | true =>
      simp
      refine WC.of (known f0.wf) ?_
      rintro v H' rfl
      simp
    | false =>
      simp [l0, l1]
      refine WC.of (c123 D.d123 f0.wf (hu.fr hw f0) (hv.fr hw f0) hl hb hfr hn) ?_
      rintro r H1 ⟨f1, x1, y1, rfl, mx1, my1⟩
      have bx1 := bx.keeps f0.wf f1.keeps (by show ¬ (H.next + 1 ≤ H.next); omega)
      have f01 := f0.trans f1
      simp [bx1.ldn (i := 0) rfl, bx1.ldn (i := 1) rfl]
      refine WC.of (c124 D.d124 f1.wf (hu.fr hw f01) (hv.fr hw f01) hl hb hfr hn) ?_
      rintro r H2 ⟨f2, x2, y2, rfl, mx2, my2⟩
      have hlen := spliceR_len (l := l) (fr := fr) (n := n) (b := b)
      simp
      refine WC.of (c122 D.d122 mx2.sl (mx1.sl.fr f1.wf f2) (by omega)) ?_
      rintro r H3 ⟨rfl, rfl⟩
      simp
      refine WC.of (c122 D.d122 my2.sl (my1.sl.fr f1.wf f2) (by omega)) ?_
      rintro r H3 ⟨rfl, rfl⟩
      simp
      refine WC.of (known f2.wf) ?_
      rintro v H' rfl
      simp

theorem Good.strs {H : AHeap} {as : List AV} (h : Good H (.slice .str) as) : ∃ (a : AV) (l : List (List UInt8)), as = [a] ∧ Sl encS 1 H a l ∧ l.length ≤ maxLen ∧ ∀ s ∈ l, s.length ≤ maxLen := by
  obtain ⟨a, l, rfl, h2, h3, h4⟩ := h
  have g : GoodV H (.slice .str) a := ⟨a, l, rfl, h2, h3, h4⟩
  obtain ⟨l', q⟩ := g.strs
  exact ⟨a, l', rfl, q⟩

theorem law106 (D : D106 T) {K : AHeap} {as : List AV} (hw : WF K) (hg : Goods K [.consA (.slice .str) (.consA (.slice .str) .nilA), .int .i64, .int .i64] as) : Calls T 106 as K fun v _ => v = .bool true := by
  obtain ⟨a, r, rfl, ⟨cs, rfl, c1, c2, rfl, g1, c3, c4, rfl, g2, rfl⟩, b, r2, rfl, gb, c, r3, rfl, gc, rfl⟩ := hg
  obtain ⟨a1, l, rfl, hl, hm, _⟩ := g1.strs
  obtain ⟨a2, m, rfl, hl2, hm2, _⟩ := g2.strs
  obtain ⟨fr, rfl, hfr⟩ := gb.int
  obtain ⟨n, rfl, hn⟩ := gc.int
  have e : maxLen = 2 ^ 63 - 1 := rfl
  exact c106 D hw hl hl2 (by omega) (by omega) (wf64 hfr) (wf64 hn)
end Go.Am
