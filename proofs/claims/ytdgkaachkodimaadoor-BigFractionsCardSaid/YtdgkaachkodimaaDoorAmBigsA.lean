/- Contracts of package big: rows of digits. -/
import Derived.Test.YtdgkaachkodimaaDoorAmIrBig
import Derived.Test.YtdgkaachkodimaaDoorAmDig
import Derived.Test.YtdgkaachkodimaaDoorAmTag
import Derived.Test.YtdgkaachkodimaaDoorAmWpR
import Derived.Test.YtdgkaachkodimaaDoorAmFloat
import Derived.Test.YtdgkaachkodimaaDoorAmRngL
set_option linter.unusedVariables false
set_option linter.unusedSimpArgs false
namespace Go.Am
variable {T : Tab}
def cmpZ (a b : Int) : Int := if a < b then -1 else if b < a then 1 else 0
theorem c192 (D : D192 T) {H : AHeap} {a : Int} : Calls T 192 [.int .i64 a] H fun r H' => H' = H ∧ r = .bool false := by
  refine Calls.fn D.pr D.fn ?_
  simp [ir192]
theorem c178 (D : D178 T) {H : AHeap} {a b : Int} : Calls T 178 [.int .i64 a, .int .i64 b] H fun r H' => H' = H ∧ r = .int .i64 (cmpZ a b) := by
  refine Calls.fn D.pr D.fn ?_
  simp [ir178]
  refine WC.of (c192 D.d192) ?_
  rintro r H' ⟨rfl, rfl⟩
  simp
  refine WC.of (c192 D.d192) ?_
  rintro r H' ⟨rfl, rfl⟩
  simp
  refine WB.bool ?_ ?_
  · intro h; simp at h; simp [cmpZ, h]
  · intro h
    simp at h
    simp
    refine WB.bool ?_ ?_
    · intro h2; simp at h2; simp [cmpZ, h2]; omega
    · intro h2; simp at h2; simp [cmpZ]; omega
/-- How rows are compared, by what comes first. -/
def cmpL : List Int → List Int → Int
  | [], [] => 0
  | [], _ :: _ => -1
  | _ :: _, [] => 1
  | a :: l, b :: m => if cmpZ a b ≠ 0 then cmpZ a b else cmpL l m
theorem c493 (D : D493 T) {H : AHeap} {v : AV} {l : List Int} (hv : Sl encI 1 H v l) {i : Nat} (hi : i < 2 ^ 40) (hl : l.length < 2 ^ 40) : Calls T 493 [v, .int .i64 i] H fun r H' => H' = H ∧ r = .int .i64 (if i < l.length then nth l ((l.length : Int) - 1 - i) else 0) := by
  refine Calls.fn D.pr D.fn ?_
  simp [ir493, hv.len]
  refine WB.bool ?_ ?_
  · intro h
    simp at h
    simp
    intro h2; omega
  · intro h
    simp at h
    have e1 : IntKind.i64.wrap ((l.length : Int) - 1) = (l.length : Int) - 1 := by simp (disch := omega) [wrap64]
    have e2 : IntKind.i64.wrap ((l.length : Int) - 1 - i) = (l.length : Int) - 1 - i := by simp (disch := omega) [wrap64]
    simp (disch := omega) [hv.len, e1, e2, hv.ia, hv.ld]
    intro h2; omega
theorem c458 (D : D458 T) {H : AHeap} {v : AV} {l : List Int} (hv : Sl encI 1 H v l) (hl : l.length < 2 ^ 40) : Calls T 458 [v] H fun r H' => H' = H ∧ Sl encI 1 H r (trimZ l) ∧ ∀ f, FamOf H v f → FamOf H r f := by
  refine Calls.fn D.pr D.fn ?_
  simp [ir458]
  refine W_loop (fun (i : Nat) e H' => H' = H ∧ ∃ m, m.length = i ∧ trimZ m = trimZ l ∧ Sl encI 1 H (e 0) m ∧ ∀ f, FamOf H v f → FamOf H (e 0) f) id l.length ?_ ?_
  · exact ⟨rfl, l, rfl, rfl, hv, fun _ h => h⟩
  · rintro i e H' ⟨rfl, m, hm, ht, hs, hfm⟩
    have him : m.length ≤ l.length ∨ True := .inr trivial
    cases m with
    | nil =>
      simp [hs.len]
      rw [← ht]; exact ⟨hs, hfm⟩
    | cons d m =>
      have hpos : (0 : Int) < ((d :: m).length : Int) := by simp
      have h0 : nth (d :: m) 0 = d := by simp [nth]
      simp (disch := omega) [hs.len, hs.ia, hs.ld, h0]
      refine WB.bool ?_ ?_
      · intro hd
        simp at hd
        obtain ⟨v', p1, p2, p3, p4⟩ := hs.cut 1 (d :: m).length (by simp) (Nat.le_refl _)
        have q : psem (.sl 1 true false false) [e 0, .int .i64 1] = some v' := p2 .i64 rfl
        have e1 : ((d :: m).take (d :: m).length).drop 1 = m := by simp
        rw [e1] at p4
        simp [q]
        refine ⟨m.length, by simp at hm; omega, m, rfl, by rw [← ht, hd]; simp [trimZ], p4.1, fun f hf => p4.2.1 f (hfm f hf)⟩
      · intro hd
        simp at hd
        simp
        rw [← ht]
        unfold trimZ
        rw [if_neg hd]
        exact ⟨hs, hfm⟩
/-- No room behind it. -/
theorem c457 (D : D457 T) {H : AHeap} {v : AV} {l : List Int} (hv : Sl encI 1 H v l) (hl : l.length < 2 ^ 40) : Calls T 457 [v] H fun r H' => H' = H ∧ Sl encI 1 H r l ∧ (∃ p sv, r = .slc p sv l.length (some l.length)) := by
  refine Calls.fn D.pr D.fn ?_
  have hlen := hv.len
  obtain ⟨hz, p, sv, cap, rfl, hcap, h2⟩ := hv
  have q : psem (.sl 1 false true true) [.slc p sv l.length cap, .int .i64 l.length, .int .i64 l.length] = some (.slc p sv l.length (some l.length)) := by
    cases p with
    | none =>
      have h2 : l = [] := h2
      subst h2
      simp [psem, slice, bound, natOf, leO, limOf, capOf]
    | some q =>
      have hc : l.length ≤ cap.getD l.length := by
        cases cap with
        | none => simp
        | some c => simpa using hcap c rfl
      simp [psem, slice, bound, natOf, leO, limOf, capOf, hc, h2.1]
  simp [ir457, hlen, q]
  exact ⟨hz, p, sv, some l.length, rfl, fun c hc => by simp at hc; omega, h2⟩
theorem c494 (D : D494 T) {H : AHeap} {u v : AV} {l m : List Int} (hu : Sl encI 1 H u l) (hv : Sl encI 1 H v m) (hl : l.length < 2 ^ 40) (hm : m.length < 2 ^ 40) : Calls T 494 [u, v] H fun r H' => H' = H ∧ r = .int .i64 (cmpL l m) := by
  refine Calls.fn D.pr D.fn ?_
  simp [ir494, hu.len]
  refine W_loop (fun (i : Nat) e H' => H' = H ∧ e 0 = u ∧ e 1 = v ∧ e 9 = u ∧ e 10 = .int .i64 l.length ∧ ∃ j : Nat, i + j = l.length ∧ e 11 = .int .i64 j ∧ j ≤ m.length ∧ cmpL (l.drop j) (m.drop j) = cmpL l m) id l.length ?_ ?_
  · exact ⟨rfl, rfl, rfl, rfl, rfl, 0, by simp, rfl, by simp, by simp⟩
  · rintro i e H' ⟨rfl, h0, h1, h9, h10, j, hj, h11, hjm, hc⟩
    simp [h0, h1, h9, h10, h11]
    refine WB.bool ?_ ?_
    · intro hlt
      simp at hlt
      simp (disch := omega) [h0, h1, h9, h10, h11, hu.ia, hu.ld, hv.len]
      refine WB.bool ?_ ?_
      · intro h2
        simp at h2
        simp
        rw [← hc, List.drop_of_length_le (show m.length ≤ j by omega), List.drop_eq_getElem_cons hlt]
        rfl
      · intro h2
        simp at h2
        have e1 : l.drop j = nth l j :: l.drop (j + 1) := by rw [List.drop_eq_getElem_cons hlt]; simp [nth, hlt]
        have e2 : m.drop j = nth m j :: m.drop (j + 1) := by rw [List.drop_eq_getElem_cons h2]; simp [nth, h2]
        simp (disch := omega) [h0, h1, hv.ia, hv.ld]
        refine WC.of (c178 D.d178) ?_
        rintro r H2 ⟨rfl, rfl⟩
        simp
        refine WB.bool ?_ ?_
        · intro h3
          simp at h3
          simp
          rw [← hc, e1, e2]
          simp only [cmpL]
          rw [if_pos h3]
        · intro h3
          simp at h3
          simp (disch := omega) [h0, h1, h9, h10, h11, wrap64]
          refine ⟨i - 1, by omega, j + 1, by omega, by omega, by omega, ?_⟩
          rw [← hc, e1, e2]
          simp only [cmpL]
          rw [if_neg (by rw [h3]; simp)]
    · intro hge
      simp at hge
      have hj2 : j = l.length := by omega
      simp [h0, h1, hu.len, hv.len]
      rw [hj2, List.drop_length] at hc
      refine WB.bool ?_ ?_
      · intro h2
        simp at h2
        simp
        rw [← hc, List.drop_eq_getElem_cons h2]
        rfl
      · intro h2
        simp at h2
        simp
        rw [← hc, List.drop_of_length_le h2]
        rfl
theorem c461 (D : D461 T) {H : AHeap} {u v : AV} {l m : List Int} (hu : Sl encI 1 H u l) (hv : Sl encI 1 H v m) (hl : l.length < 2 ^ 40) (hm : m.length < 2 ^ 40) : Calls T 461 [u, v] H fun r H' => H' = H ∧ r = .int .i64 (if l.length = m.length then cmpL l m else (l.length : Int) - m.length) := by
  refine Calls.fn D.pr D.fn ?_
  simp [ir461, hu.len, hv.len]
  refine WB.bool ?_ ?_
  · intro h
    simp at h
    simp (disch := omega) [hu.len, hv.len, wrap64, h]
    intro h2; omega
  · intro h
    simp at h
    simp
    refine WC.of (c494 D.d494 hu hv hl hm) ?_
    rintro r H2 ⟨rfl, rfl⟩
    simp [h]
    intro h2; omega
theorem nthZ_set (l : List Int) (i : Nat) (x : Int) (k : Nat) (h : i < l.length) : nth (l.set i x) (k : Int) = if k = i then x else nth l (k : Int) := by
  unfold nth
  simp only [List.getD_eq_getElem?_getD, Int.toNat_natCast, List.getElem?_set]
  by_cases e : k = i
  · subst e; simp [h]
  · rw [if_neg (Ne.symm e), if_neg e]
theorem ext_nthZ {l m : List Int} (h : l.length = m.length) (k : ∀ i : Nat, i < l.length → nth l (i : Int) = nth m (i : Int)) : l = m := by
  apply List.ext_getElem h
  intro i h1 h2
  have := k i h1
  simpa [nth, h1, h2] using this
/-- Turned round in its place. -/
theorem c495 (D : D495 T) {n : Nat} {H : AHeap} (hw : WF H) {v : AV} {l : List Int} (hv : Made encI 1 n H v l) (hl : l.length < 2 ^ 40) : Calls T 495 [v] H fun r H' => WF H' ∧ Keeps (n ≤ ·) H H' ∧ Made encI 1 n H' v l.reverse ∧ H'.next = H.next := by
  refine Calls.fn D.pr D.fn ?_
  have e0 : IntKind.i64.wrap ((l.length : Int) - 1) = (l.length : Int) - 1 := by simp (disch := omega) [wrap64]
  simp [ir495, hv.sl.len, e0]
  refine W_loop (fun (i : Nat) e H' => e 0 = v ∧ WF H' ∧ Keeps (n ≤ ·) H H' ∧ H'.next = H.next ∧ ∃ j : Nat, e 2 = .int .i64 j ∧ e 3 = .int .i64 ((l.length : Int) - 1 - j) ∧ i = l.length - j ∧ j ≤ l.length ∧ ∃ m, Made encI 1 n H' v m ∧ m.length = l.length ∧ (∀ k : Nat, k < l.length → nth m (k : Int) = if k < j ∨ l.length - 1 - k < j then nth l ((l.length - 1 - k : Nat) : Int) else nth l (k : Int))) id l.length ?_ ?_
  · exact ⟨rfl, hw, .refl, rfl, 0, rfl, by simp, by simp, by simp, l, hv, rfl, fun k hk => by simp⟩
  · rintro i e H' ⟨h0, hw', hk, hnx, j, h2, h3, hi, hj, m, hm, hml, hmk⟩
    simp [h0, h2, h3]
    refine WB.bool ?_ ?_
    · intro hlt
      simp at hlt
      obtain ⟨q, hq⟩ : ∃ q : Nat, (q : Int) = (l.length : Int) - 1 - j := ⟨l.length - 1 - j, by omega⟩
      obtain ⟨H1, s1, w1, k1, m1, n1⟩ := hm.st hw' (i := (j : Int)) (by omega) (by rw [hml]; omega) (nth m ((l.length : Int) - 1 - j))
      obtain ⟨H2, s2, w2, k2, m2, n2⟩ := m1.st w1 (i := (l.length : Int) - 1 - j) (by omega) (by simp; omega) (nth m (j : Int))
      simp (disch := omega) [h0, h2, h3, hm.sl.ia, hm.sl.ld, hml, s1, s2]
      simp (disch := omega) [h0, h2, h3, wrap64]
      refine ⟨l.length - (j + 1), by omega, w2, (hk.trans k1).trans k2, by omega, j + 1, by omega, by omega, rfl, by omega, _, m2, by simp [hml], fun k hk2 => ?_⟩
      have tj : ((l.length : Int) - 1 - j).toNat = q := by omega
      rw [tj, Int.toNat_natCast, nthZ_set _ _ _ _ (by simp; omega), nthZ_set _ _ _ _ (by omega), ← hq]
      have a1 := hmk j (by omega)
      have a2 := hmk q (by omega)
      have a3 := hmk k hk2
      rw [if_neg (by omega)] at a1 a2
      rw [a1, a2, a3]
      have hqn : q = l.length - 1 - j := by omega
      by_cases c1 : k = q
      · rw [if_pos c1, if_pos (by omega)]; congr 1; omega
      · rw [if_neg c1]
        by_cases c2 : k = j
        · rw [if_pos c2, if_pos (by omega)]; congr 1; omega
        · rw [if_neg c2]
          by_cases c3 : k < j ∨ l.length - 1 - k < j
          · rw [if_pos c3, if_pos (by omega)]
          · rw [if_neg c3, if_neg (by omega)]
    · intro hge
      simp at hge
      simp
      refine ⟨hw', hk, ?_, hnx⟩
      have : m = l.reverse := by
        refine ext_nthZ (by simp [hml]) fun k hk2 => ?_
        rw [hmk k (by omega)]
        have rv : nth l.reverse (k : Int) = nth l ((l.length - 1 - k : Nat) : Int) := by
          unfold nth
          simp only [List.getD_eq_getElem?_getD, Int.toNat_natCast]
          rw [List.getElem?_reverse (by omega)]
        rw [rv]
        split
        · rfl
        · congr 1; omega
      rw [← this]; exact hm
end Go.Am

/- Ranging over a row from its end. -/
set_option linter.unusedVariables false
set_option linter.unusedSimpArgs false
namespace Go.Am
theorem ir503_eq : ir503 = ir502 := rfl
theorem W_back {T : Mach} {k : List Fm} {R : AExit → AState → Prop} {g : AOpd} {p1 p2 : Nat} {asg body : ACode} {e : Env} {H : AHeap} {f bc L : Nat} {vs : AV}
    (hg : e.ev g = .fn f [] [.ptr (some (bc, 0))]) (hf : T.fn f = some ir502) (hL : L < 2 ^ 40) (I : Nat → AHeap → Prop) (hI0 : I 0 H.newLoop)
    (hcap : ∀ j H', I j H' → rsem (.ld 1 false) [.ptr (some (bc, 0))] H' = some vs)
    (hvs : ∀ j H', I j H' → ∃ l : List Int, Sl encI 1 H' vs l ∧ l.length = L)
    (round : ∀ (j : Nat) H' (x : Int), j < L → I j H' → W T (.seq asg body) [] (upd (putAll e [p1, p2] [.int .i64 ((L : Int) - 1 - j), .int .i64 x]) dfrT .undef, H') (fun z s => z = .normal ∧ I (j + 1) s.2))
    (after : ∀ H', I L H' → Wk T k .normal (upd e dfrT (pushM (e dfrT) H.next), H') R) : W T (.rngf g [p1, p2] asg body) k (e, H) R := by
  refine W_rngf hg hf ?_
  obtain ⟨l0, hl0, hll0⟩ := hvs 0 _ hI0
  have c0 := hcap 0 _ hI0
  have e0 : IntKind.i64.wrap ((L : Int) - 1) = (L : Int) - 1 := by simp (disch := omega) [wrap64]
  have henv : env0 ([] ++ [AV.yld (H.next + 1)] ++ [.ptr (some (bc, 0))]) = argsEnv [.yld (H.next + 1), .ptr (some (bc, 0))] 0 := env0_args (by simp)
  rw [henv]
  simp [ir502, c0, hl0.len, hll0, e0]
  refine W_loop (fun (i : Nat) e' H' => e' 0 = .yld (H.next + 1) ∧ e' 1 = .ptr (some (bc, 0)) ∧ e' 1048576 = .undef ∧ ∃ j : Nat, i = L - j ∧ j ≤ L ∧ e' 3 = .int .i64 ((L : Int) - 1 - j) ∧ I j H') id L ?_ ?_
  · exact ⟨rfl, rfl, rfl, 0, by simp, by simp, by simp, hI0⟩
  · rintro i e' H' ⟨h0, h1, hd, j, hi, hj, h3, hI⟩
    obtain ⟨l, hl, hll⟩ := hvs j _ hI
    have c := hcap j _ hI
    simp [h3]
    refine WB.bool ?_ ?_
    · intro hlt
      simp at hlt
      simp (disch := omega) [h0, h1, h3, c, hl.ia, hl.ld, hll]
      refine WX_yl rfl ?_
      refine W.imp ?_ (round j H' (nth l ((L : Int) - 1 - j)) (by omega) hI)
      rintro z s ⟨hz, hI2⟩
      refine ⟨hz, ?_⟩
      simp (disch := omega) [h0, h1, h3, hd, wrap64]
      refine ⟨L - (j + 1), by omega, j + 1, rfl, by omega, by omega, hI2⟩
    · intro hge
      simp at hge
      have hjL : j = L := by omega
      subst hjL
      simp [hd]
      exact after _ hI
end Go.Am

/- Contracts of package big: sums and differences of numbers without signs. -/
set_option linter.unusedVariables false
set_option linter.unusedSimpArgs false
namespace Go.Am
variable {T : Tab}
theorem Own.st1 {H : AHeap} (hw : WF H) {v : AV} {l : List Int} {f : Option Nat} (h : Own encI 1 H v l f) {i : Int} (h0 : 0 ≤ i) (h1 : i < l.length) (x : Int) :
    ∃ H', wsem0 (.st 1) [elt v 1 i, .int .i64 x] H = some (.undef, H') ∧ WF H' ∧ Own encI 1 H' v (l.set i.toNat x) f ∧ Keeps (fun g => f = some g) H H' ∧ H'.next = H.next := by
  obtain ⟨bo, oo, e, _, st⟩ := h.at hw h0 h1
  obtain ⟨H', q1, q2, q3, q4, q5⟩ := st x 0 [.int .i64 x] rfl (by simp) (by simp [splice, AV.cells])
  refine ⟨H', ?_, q2, q3, q4, q5⟩
  rw [e, wsem0_st]
  simp only [AV.cells, List.length_singleton, if_true]
  rw [Nat.add_zero] at q1
  rw [q1]
theorem cells0 (n : Nat) : (List.replicate n [AV.int .i64 0]).flatten = (List.replicate n (0 : Int)).flatMap fun x => (encI x).cells := by
  induction n with
  | zero => rfl
  | succ n ih => rw [List.replicate_succ, List.replicate_succ, List.flatten_cons, List.flatMap_cons, ih]; rfl
/-- A row of zeros. -/
theorem mk0 {H : AHeap} (hw : WF H) {n : Nat} (hn : n < 2 ^ 41) : wsem0 (.mks 8 [.int .i64 0]) [.int .i64 (n : Int), .int .i64 (n : Int)] H = some (.slc (some (H.next, 0)) 1 n (some n), H.new (List.replicate n (AV.int .i64 0))) ∧
    Own encI 1 (H.new (List.replicate n (AV.int .i64 0))) (.slc (some (H.next, 0)) 1 n (some n)) (List.replicate n 0) (some H.next) := by
  have hfl : (List.replicate n [AV.int .i64 0]).flatten = List.replicate n (AV.int .i64 0) := by simp
  rw [← hfl]
  refine ⟨wsem0_mks (by omega) (by simp) rfl (by omega), ?_⟩
  have := hw.own_new (enc := encI) (sz := 1) (l := List.replicate n (0 : Int)) (cs := (List.replicate n [AV.int .i64 0]).flatten) (cap := some n) (Cell.len _) (by simp) (by rw [cells0]; simp [AV.cells]) (by
    rw [cells0, List.take_of_length_le]
    simp [AV.cells])
  simpa using this
theorem c492 (D : D492 T) {H : AHeap} {v : AV} (hv : v.cell = true) : Calls T 492 [v] H fun r H' => r = .fn 502 [] [.ptr (some (H.next, 0))] ∧ H' = H.new [v] := by
  refine Calls.fn D.pr D.fn ?_
  have hc : v.cells = [v] := by cases v <;> simp_all [AV.cells, AV.cell]
  simp [ir492, hc, hv, psem]
/-- What add and sub work on. -/
structure Ad (H0 H : AHeap) (a b vo : AV) (l : List Int) (c : Int) : Prop where
  wf : WF H
  keeps : Keeps (H0.next ≤ ·) H0 H
  b2 : Box H H0.next H0.next [a]
  b3 : Box H (H0.next + 1) (H0.next + 1) [b]
  own : Own encI 1 H vo l (some (H0.next + 2))
  b5 : Box H (H0.next + 3) (H0.next + 3) [vo]
  b6 : Box H (H0.next + 4) (H0.next + 4) [.int .i64 c]
  bc : Box H (H0.next + 5) (H0.next + 5) [vo]
  dq : H.blk (H0.next + 6) = some (.dq true)
theorem Ad.setC {H0 H : AHeap} {a b vo : AV} {l : List Int} {c : Int} (h : Ad H0 H a b vo l c) (x : Int) :
    ∃ H', wsem0 (.st 1) [.ptr (some (H0.next + 4, 0)), .int .i64 x] H = some (.undef, H') ∧ Ad H0 H' a b vo l x := by
  obtain ⟨H', q1, q2, q3, q4, q5⟩ := h.b6.st1 h.wf (y := .int .i64 x) rfl
  exact ⟨H', q1, q2, h.keeps.trans (q4.mono fun f hf => by omega), h.b2.keeps h.wf q4 (by omega), h.b3.keeps h.wf q4 (by omega), h.own.keeps h.wf q4 (fun g hg => by simp at hg; omega), h.b5.keeps h.wf q4 (by omega), q3, h.bc.keeps h.wf q4 (by omega), q4.obj _ _ h.dq rfl (by omega)⟩
theorem Ad.setO {H0 H : AHeap} {a b vo : AV} {l : List Int} {c : Int} (h : Ad H0 H a b vo l c) {i : Int} (h0 : 0 ≤ i) (h1 : i < l.length) (x : Int) :
    ∃ H', wsem0 (.st 1) [elt vo 1 i, .int .i64 x] H = some (.undef, H') ∧ Ad H0 H' a b vo (l.set i.toNat x) c := by
  obtain ⟨H', q1, q2, q3, q4, q5⟩ := h.own.st1 h.wf h0 h1 x
  have ne : ∀ g, g ≠ H0.next + 2 → ¬ some (H0.next + 2) = some g := fun g hg e => hg (by simpa using e.symm)
  exact ⟨H', q1, q2, h.keeps.trans (q4.mono fun f hf => by simp at hf; omega), h.b2.keeps h.wf q4 (ne _ (by omega)), h.b3.keeps h.wf q4 (ne _ (by omega)), q3, h.b5.keeps h.wf q4 (ne _ (by omega)), h.b6.keeps h.wf q4 (ne _ (by omega)), h.bc.keeps h.wf q4 (ne _ (by omega)), q4.obj _ _ h.dq rfl (ne _ (by omega))⟩
theorem wrap_small {n : Int} (h0 : -(2 ^ 62) < n) (h1 : n < 2 ^ 62) : IntKind.i64.wrap n = n := by simp (disch := omega) [wrap64]
theorem nth_digit {n i : Nat} : (if i < (dig n).length then nth (dig n) (((dig n).length : Int) - 1 - i) else 0) = ((n / 10 ^ i % 10 : Nat) : Int) := by
  split
  · rename_i h; exact nth_dig h
  · rename_i h; rw [dig_beyond (by omega)]; rfl
theorem Sl.obj {H : AHeap} {v : AV} {l : List Int} (h : Sl encI 1 H v l) {b : Nat} {o o' : AObj} (hb : H.blk b = some o) (ho : o.isRow = false) : Sl encI 1 (H.setObj b o') v l := by
  obtain ⟨hz, p, sv, cap, rfl, hcap, h2⟩ := h
  refine ⟨hz, p, sv, cap, rfl, hcap, ?_⟩
  cases p with
  | none => exact h2
  | some q =>
    obtain ⟨h3, f, cs, h4, h5⟩ := h2
    have hne : q.1 ≠ b := by
      intro e
      have := AHeap.row_blk h4
      rw [e, hb] at this
      simp at this
      subst this
      cases ho
    exact ⟨h3, f, cs, row_of h4 (upd_ne _ _ _ hne) rfl, h5⟩
theorem Own.obj {H : AHeap} {v : AV} {l : List Int} {f : Option Nat} (h : Own encI 1 H v l f) {b : Nat} {o o' : AObj} (hb : H.blk b = some o) (ho : o.isRow = false) : Own encI 1 (H.setObj b o') v l f := by
  refine ⟨h.1.obj hb ho, ?_⟩
  have h2 := h.2
  obtain ⟨_, p, sv, cap, rfl, _, _⟩ := h.1
  cases p with
  | none => exact h2
  | some q =>
    obtain ⟨c, off⟩ := q
    obtain ⟨g, cs, h3, h4, h5⟩ := h2
    have hne : c ≠ b := by
      intro e
      have := AHeap.row_blk h3
      rw [e, hb] at this
      simp at this
      subst this
      cases ho
    exact ⟨g, cs, row_of h3 (upd_ne _ _ _ hne) rfl, h4, h5⟩
theorem new_next {H : AHeap} {cs : List AV} : (H.new cs).next = H.next + 1 := rfl
/-- The first state of add and sub: behind their variables. -/
theorem Ad.first {H : AHeap} (hw : WF H) {u v : AV} {L : Nat} (hL : L < 2 ^ 41) :
    ∃ H5 H6, wsem0 (.mks 8 [.int .i64 0]) [.int .i64 (L : Int), .int .i64 (L : Int)] ((H.new [u]).new [v]) = some (.slc (some (H.next + 2, 0)) 1 L (some L), ((H.new [u]).new [v]).new (List.replicate L (AV.int .i64 0))) ∧
      wsem0 (.st 1) [.ptr (some (H.next + 3, 0)), .slc (some (H.next + 2, 0)) 1 L (some L)] ((((H.new [u]).new [v]).new (List.replicate L (AV.int .i64 0))).new [.slc none 0 0 none]) = some (.undef, H5) ∧ H5.next = H.next + 4 ∧
      wsem0 (.st 1) [.ptr (some (H.next + 4, 0)), .int .i64 0] (H5.new [.int .i64 0]) = some (.undef, H6) ∧ H6.next = H.next + 5 ∧
      Ad H (H6.new [.slc (some (H.next + 2, 0)) 1 L (some L)]).newLoop u v (.slc (some (H.next + 2, 0)) 1 L (some L)) (List.replicate L 0) 0 ∧
      rsem (.ld 1 false) [.ptr (some (H.next + 3, 0))] H6 = some (.slc (some (H.next + 2, 0)) 1 L (some L)) := by
  have w1 := hw.new (cs := [u])
  have w2 := w1.new (cs := [v])
  have B2 : Box ((H.new [u]).new [v]) H.next H.next [u] := (Box.new (H := H)).keeps w1 (w1.keeps_new (D := fun _ => False)) (fun h => h)
  have B3 : Box ((H.new [u]).new [v]) (H.next + 1) (H.next + 1) [v] := Box.new
  have k2 : Keeps (fun _ => False) H ((H.new [u]).new [v]) := hw.keeps_new.trans w1.keeps_new
  obtain ⟨mk1, mk2⟩ := mk0 w2 (n := L) hL
  have w3 := w2.new (cs := (List.replicate L (AV.int .i64 0)))
  have k3 := w2.keeps_new (cs := (List.replicate L (AV.int .i64 0))) (D := fun _ => False)
  have B5 : Box ((((H.new [u]).new [v]).new (List.replicate L (AV.int .i64 0))).new [.slc none 0 0 none]) (H.next + 3) (H.next + 3) [.slc none 0 0 none] := Box.new
  have w4 := w3.new (cs := [.slc none 0 0 none])
  have k4 := w3.keeps_new (cs := [.slc none 0 0 none]) (D := fun _ => False)
  obtain ⟨H5, q1, q2, q3, q4, q5⟩ := B5.st1 w4 (y := .slc (some (H.next + 2, 0)) 1 L (some L)) rfl
  have w5 := q2.new (cs := [.int .i64 0])
  have k5 := q2.keeps_new (cs := [.int .i64 0]) (D := fun _ => False)
  have n5 : H5.next = H.next + 4 := q5
  have B6 : Box (H5.new [.int .i64 0]) (H.next + 4) (H.next + 4) [.int .i64 0] := by rw [← n5]; exact Box.new
  obtain ⟨H6, p1, p2, p3, p4, p5⟩ := B6.st1 w5 (y := .int .i64 0) rfl
  have n6 : H6.next = H.next + 5 := by rw [p5, new_next, n5]
  have w7 := p2.new (cs := [.slc (some (H.next + 2, 0)) 1 L (some L)])
  have k7 := p2.keeps_new (cs := [.slc (some (H.next + 2, 0)) 1 L (some L)]) (D := fun _ => False)
  have Bc : Box (H6.new [.slc (some (H.next + 2, 0)) 1 L (some L)]) (H.next + 5) (H.next + 5) [.slc (some (H.next + 2, 0)) 1 L (some L)] := by rw [← n6]; exact Box.new
  obtain ⟨wl, bl, kl⟩ := w7.newObj (o := .dq true) rfl
  obtain ⟨wb, kb⟩ := wl.bump 1
  have ho : Own encI 1 (((H.new [u]).new [v]).new (List.replicate L (AV.int .i64 0))) (.slc (some (H.next + 2, 0)) 1 L (some L)) (List.replicate L 0) (some (H.next + 2)) := mk2
  -- all that is kept
  have kA : Keeps (fun g => g = H.next + 3) (((H.new [u]).new [v]).new (List.replicate L (AV.int .i64 0))) H5 := (k4.mono fun _ h => h.elim).trans q4
  have kB : Keeps (fun g => g = H.next + 4) H5 H6 := (k5.mono fun _ h => h.elim).trans p4
  have kC : Keeps (fun _ => False) H6 (H6.new [.slc (some (H.next + 2, 0)) 1 L (some L)]).newLoop := (k7.trans (kl _)).trans (kb _)
  have wC : WF (H6.new [.slc (some (H.next + 2, 0)) 1 L (some L)]).newLoop := wb
  refine ⟨H5, H6, mk1, q1, n5, p1, n6, ⟨wC, ?_, ?_, ?_, ?_, ?_, ?_, ?_, ?_⟩, ?_⟩
  · exact ((((k2.trans k3).mono fun _ h => h.elim).trans (kA.mono fun f hf => by omega)).trans (kB.mono fun f hf => by omega)).trans (kC.mono fun _ h => h.elim)
  · exact (((B2.keeps w2 k3 (fun h => h)).keeps w3 kA (by omega)).keeps q2 kB (by omega)).keeps p2 kC (fun h => h)
  · exact (((B3.keeps w2 k3 (fun h => h)).keeps w3 kA (by omega)).keeps q2 kB (by omega)).keeps p2 kC (fun h => h)
  · exact ((ho.keeps w3 kA (fun g hg => by simp at hg; omega)).keeps q2 kB (fun g hg => by simp at hg; omega)).keeps p2 kC (fun _ _ h => h)
  · exact (q3.keeps q2 kB (by omega)).keeps p2 kC (fun h => h)
  · exact p3.keeps p2 kC (fun h => h)
  · exact Bc.keeps w7 ((kl _).trans (kb (fun _ => False))) (fun h => h)
  · have : (H6.new [.slc (some (H.next + 2, 0)) 1 L (some L)]).next = H.next + 6 := by rw [new_next, n6]
    rw [← this]
    exact bl
  · exact (q3.keeps q2 kB (by omega)).ld1
theorem c460 (D : D460 T) {H : AHeap} (hw : WF H) {u v : AV} {m n : Nat} (hu : Sl encI 1 H u (dig m)) (hv : Sl encI 1 H v (dig n)) (hm : (dig m).length < 2 ^ 30) (hn : (dig n).length < 2 ^ 30) : Calls T 460 [u, v] H fun r H' => Fr H H' ∧ Made encI 1 H.next H' r (dig (m + n)) := by
  refine Calls.fnD D.pr D.fn ?_
  obtain ⟨L, hL⟩ : ∃ L : Nat, L = max (dig m).length (dig n).length + 1 := ⟨_, rfl⟩
  have ucell := hu.form
  have vcell := hv.form
  have mx : psem .max [.int .i64 (dig m).length, .int .i64 (dig n).length] = some (.int .i64 ((max (dig m).length (dig n).length : Nat) : Int)) := by
    simp only [psem, foldO, max2]
    congr 2
    split <;> omega
  have e1 : IntKind.i64.wrap (((max (dig m).length (dig n).length : Nat) : Int) + 1) = (L : Int) := by rw [wrap_small (by omega) (by omega)]; omega
  obtain ⟨H5, H6, mk1, s5, n5, s6, n6, A0, l5⟩ := Ad.first hw (u := u) (v := v) (L := L) (by omega)
  have w1 := hw.new (cs := [u])
  have B2 : Box ((H.new [u]).new [v]) H.next H.next [u] := (Box.new (H := H)).keeps w1 (w1.keeps_new (D := fun _ => False)) (fun h => h)
  have B3 : Box ((H.new [u]).new [v]) (H.next + 1) (H.next + 1) [v] := Box.new
  have sc : (AV.slc none 0 0 none).cells = [.slc none 0 0 none] := rfl
  have scc : (AV.slc none 0 0 none).cell = true := rfl
  have ic : (AV.int .i64 0).cells = [.int .i64 0] := rfl
  have icc : (AV.int .i64 0).cell = true := rfl
  simp [ir460, ucell.1, ucell.2, vcell.1, vcell.2, new_next]
  simp [B2.ld1, B3.ld1, hu.len, hv.len, mx, e1, mk1, new_next, s5, n5, s6, l5, sc, scc, ic, icc, Nat.add_assoc]
  refine WC.of (c492 D.d492 (v := .slc (some (H.next + 2, 0)) 1 L (some L)) rfl) ?_
  rintro r H7 ⟨rfl, rfl⟩
  simp [n6]
  obtain ⟨vo, hvo⟩ : ∃ vo, AV.slc (some (H.next + 2, 0)) 1 L (some L) = vo := ⟨_, rfl⟩
  rw [hvo] at A0 ⊢
  refine W_back (L := L) (vs := vo) (bc := H.next + 5) (f := 502) (by simp [Env.ev]) D.d492.d502.fn (by omega) (fun j X => Ad H X u v vo (fd L ((m + n) % 10 ^ j)) (((m % 10 ^ j + n % 10 ^ j) / 10 ^ j : Nat) : Int)) ?_ (fun j X h => h.bc.ld1) (fun j X h => ⟨_, h.own.1, fd_len _ _⟩) ?_ ?_
  · have z : fd L ((m + n) % 10 ^ 0) = List.replicate L 0 := by rw [Nat.pow_zero, Nat.mod_one, fd_zero]
    rw [z]
    simpa [Nat.mod_one] using A0
  · intro j X x hj hA
    have hfrX : Fr H X := ⟨hA.wf, hA.keeps⟩
    have huX := hu.fr hw hfrX
    have hvX := hv.fr hw hfrX
    have ol : psem .len [vo] = some (.int .i64 L) := by rw [hA.own.1.len, fd_len]
    have p1 : IntKind.i64.wrap ((L : Int) - 1) = (L : Int) - 1 := wrap_small (by omega) (by omega)
    have p2 : IntKind.i64.wrap ((L : Int) - 1 - ((L : Int) - 1 - j)) = (j : Int) := by rw [wrap_small (by omega) (by omega)]; omega
    obtain ⟨dm, hdm⟩ : ∃ dm, m / 10 ^ j % 10 = dm := ⟨_, rfl⟩
    obtain ⟨dn, hdn⟩ : ∃ dn, n / 10 ^ j % 10 = dn := ⟨_, rfl⟩
    obtain ⟨c, hc⟩ : ∃ c, (m % 10 ^ j + n % 10 ^ j) / 10 ^ j = c := ⟨_, rfl⟩
    have hp : 0 < 10 ^ j := Nat.pow_pos (by decide)
    have b1 : dm < 10 := by rw [← hdm]; exact Nat.mod_lt _ (by decide)
    have b2 : dn < 10 := by rw [← hdn]; exact Nat.mod_lt _ (by decide)
    have b3 : c < 2 := by rw [← hc, Nat.div_lt_iff_lt_mul hp]; have := Nat.mod_lt m hp; have := Nat.mod_lt n hp; omega
    obtain ⟨g1, g2⟩ := add_digit m n j
    rw [hdm, hdn, hc] at g1 g2
    rw [hc] at hA
    obtain ⟨s, hs⟩ : ∃ s, dm + dn + c = s := ⟨_, rfl⟩
    obtain ⟨d, hd⟩ : ∃ d, s % 10 = d := ⟨_, rfl⟩
    obtain ⟨z, hz⟩ : ∃ z, s / 10 = z := ⟨_, rfl⟩
    have q1 : IntKind.i64.wrap ((dm : Int) + dn) = (dm : Int) + dn := by rw [wrap_small (by omega) (by omega)]
    have q2 : IntKind.i64.wrap ((dm : Int) + dn + c) = (s : Int) := by rw [wrap_small (by omega) (by omega)]; omega
    have q3 : (s : Int).tmod 10 = (d : Int) := by rw [← hd]; rfl
    have q4 : IntKind.i64.wrap ((s : Int).tdiv 10) = (z : Int) := by rw [show (s : Int).tdiv 10 = ((s / 10 : Nat) : Int) from rfl, hz, wrap_small (by omega) (by omega)]
    have q5 : IntKind.i64.wrap ((s : Int) / 10) = (z : Int) := by rw [show (s : Int) / 10 = ((s / 10 : Nat) : Int) by omega, hz, wrap_small (by omega) (by omega)]
    rw [hs] at g1 g2
    have ia : psem (.ia 1) [vo, .int .i64 ((L : Int) - 1 - j)] = some (elt vo 1 ((L : Int) - 1 - j)) := hA.own.1.ia (by omega) (by rw [fd_len]; omega)
    obtain ⟨Y, s1, A1⟩ := hA.setO (i := (L : Int) - 1 - j) (by omega) (by rw [fd_len]; omega) ((d : Nat) : Int)
    obtain ⟨Z, s2, A2⟩ := A1.setC ((z : Nat) : Int)
    have tj : ((L : Int) - 1 - j).toNat = L - 1 - j := by omega
    rw [tj, ← hd, g1, fd_set hj] at A2
    rw [← hz, g2] at A2
    simp [putAll, dfrT, hA.b5.ld1, ol, p1, p2]
    refine W_floats ?_
    simp only [WT_cons, WT_nil]
    simp [hA.b2.ld1]
    refine WC.of (c493 D.d493 huX (i := j) (by omega) (by omega)) ?_
    rintro r X1 ⟨rfl, hr⟩
    rw [nth_digit, hdm] at hr
    subst hr
    simp [hA.b3.ld1]
    refine WC.of (c493 D.d493 hvX (i := j) (by omega) (by omega)) ?_
    rintro r X2 ⟨rfl, hr⟩
    rw [nth_digit, hdn] at hr
    subst hr
    simp only [WO_nil, Wk_nil, true_and]
    simp [hA.b6.ld1, q1, q2]
    simp [floatOk, wanted, AV.same_refl, hA.b2.ld1, hA.b3.ld1, hA.b6.ld1]
    simp [hA.b5.ld1, q3, q4, q5, ia, s1, s2]
    exact A2
  · intro X hA
    simp [dfrT, pushM, hA.b5.ld1]
    refine WC.of (c458 D.d458 hA.own.1 (by rw [fd_len]; omega)) ?_
    rintro r X1 ⟨rfl, hr, hfr⟩
    simp
    have nb : (H6.new [vo]).next = H.next + 6 := by rw [new_next, n6]
    rw [nb]
    obtain ⟨w', _, k'⟩ := hA.wf.setObj hA.dq (o' := .dq false) rfl rfl
    have hlt : m + n < 10 ^ L := by
      have h1 := Nat.lt_of_lt_of_le (dig_lt m) (Nat.pow_le_pow_right (show 10 > 0 by decide) (show (dig m).length ≤ L - 1 by omega))
      have h2 := Nat.lt_of_lt_of_le (dig_lt n) (Nat.pow_le_pow_right (show 10 > 0 by decide) (show (dig n).length ≤ L - 1 by omega))
      have e : 10 ^ L = 10 ^ (L - 1) * 10 := by rw [← Nat.pow_succ]; congr 1; omega
      omega
    rw [Nat.mod_eq_of_lt hlt, trimZ_fd _ _ hlt] at hr
    exact ⟨hA.dq, ⟨w', hA.keeps.trans (k'.mono fun g hg => by omega)⟩, some (H.next + 2), Own.obj ⟨hr, hfr _ hA.own.2⟩ hA.dq rfl, fun g hg => by simp at hg; omega⟩
theorem c477 (D : D477 T) {H : AHeap} (hw : WF H) {u v : AV} {m n : Nat} (hu : Sl encI 1 H u (dig m)) (hv : Sl encI 1 H v (dig n)) (hle : n ≤ m) (hm : (dig m).length < 2 ^ 30) : Calls T 477 [u, v] H fun r H' => Fr H H' ∧ Made encI 1 H.next H' r (dig (m - n)) := by
  refine Calls.fnD D.pr D.fn ?_
  obtain ⟨L, hL⟩ : ∃ L : Nat, (dig m).length = L := ⟨_, rfl⟩
  have hn : (dig n).length ≤ L := by rw [← hL]; exact dig_len_mono hle
  have ucell := hu.form
  have vcell := hv.form
  obtain ⟨H5, H6, mk1, s5, n5, s6, n6, A0, l5⟩ := Ad.first hw (u := u) (v := v) (L := L) (by omega)
  have w1 := hw.new (cs := [u])
  have B2 : Box ((H.new [u]).new [v]) H.next H.next [u] := (Box.new (H := H)).keeps w1 (w1.keeps_new (D := fun _ => False)) (fun h => h)
  have sc : (AV.slc none 0 0 none).cells = [.slc none 0 0 none] := rfl
  have scc : (AV.slc none 0 0 none).cell = true := rfl
  have ic : (AV.int .i64 0).cells = [.int .i64 0] := rfl
  have icc : (AV.int .i64 0).cell = true := rfl
  have ul : psem .len [u] = some (.int .i64 L) := by rw [hu.len, hL]
  simp [ir477, ucell.1, ucell.2, vcell.1, vcell.2, new_next]
  simp [B2.ld1, ul, mk1, new_next, s5, n5, s6, l5, sc, scc, ic, icc, Nat.add_assoc]
  refine WC.of (c492 D.d492 (v := .slc (some (H.next + 2, 0)) 1 L (some L)) rfl) ?_
  rintro r H7 ⟨rfl, rfl⟩
  simp [n6]
  obtain ⟨vo, hvo⟩ : ∃ vo, AV.slc (some (H.next + 2, 0)) 1 L (some L) = vo := ⟨_, rfl⟩
  rw [hvo] at A0 ⊢
  refine W_back (L := L) (vs := vo) (bc := H.next + 5) (f := 502) (by simp [Env.ev]) D.d492.d502.fn (by omega) (fun j X => Ad H X u v vo (fd L ((m - n) % 10 ^ j)) ((owed m n j : Nat) : Int)) ?_ (fun j X h => h.bc.ld1) (fun j X h => ⟨_, h.own.1, fd_len _ _⟩) ?_ ?_
  · have z : fd L ((m - n) % 10 ^ 0) = List.replicate L 0 := by rw [Nat.pow_zero, Nat.mod_one, fd_zero]
    rw [z]
    simpa [owed, Nat.mod_one] using A0
  · intro j X x hj hA
    have hfrX : Fr H X := ⟨hA.wf, hA.keeps⟩
    have huX := hu.fr hw hfrX
    have hvX := hv.fr hw hfrX
    have ol : psem .len [vo] = some (.int .i64 L) := by rw [hA.own.1.len, fd_len]
    have p1 : IntKind.i64.wrap ((L : Int) - 1) = (L : Int) - 1 := wrap_small (by omega) (by omega)
    have p2 : IntKind.i64.wrap ((L : Int) - 1 - ((L : Int) - 1 - j)) = (j : Int) := by rw [wrap_small (by omega) (by omega)]; omega
    obtain ⟨dm, hdm⟩ : ∃ dm, m / 10 ^ j % 10 = dm := ⟨_, rfl⟩
    obtain ⟨dn, hdn⟩ : ∃ dn, n / 10 ^ j % 10 = dn := ⟨_, rfl⟩
    obtain ⟨c, hc⟩ : ∃ c, owed m n j = c := ⟨_, rfl⟩
    have b1 : dm < 10 := by rw [← hdm]; exact Nat.mod_lt _ (by decide)
    have b2 : dn < 10 := by rw [← hdn]; exact Nat.mod_lt _ (by decide)
    have b3 : c < 2 := by rw [← hc]; unfold owed; split <;> omega
    obtain ⟨g1, g2⟩ := sub_digit hle j
    rw [hdm, hdn, hc] at g1 g2
    rw [hc] at hA
    have q1 : IntKind.i64.wrap ((dm : Int) - dn) = (dm : Int) - dn := by rw [wrap_small (by omega) (by omega)]
    have q2 : IntKind.i64.wrap ((dm : Int) - dn - c) = (dm : Int) - dn - c := by rw [wrap_small (by omega) (by omega)]
    have q3 : IntKind.i64.wrap ((dm : Int) - dn - c + 10) = (dm : Int) - dn - c + 10 := by rw [wrap_small (by omega) (by omega)]
    have ia : psem (.ia 1) [vo, .int .i64 ((L : Int) - 1 - j)] = some (elt vo 1 ((L : Int) - 1 - j)) := hA.own.1.ia (by omega) (by rw [fd_len]; omega)
    have tj : ((L : Int) - 1 - j).toNat = L - 1 - j := by omega
    obtain ⟨X0, s0, A1⟩ := hA.setC 0
    simp [putAll, dfrT, hA.b5.ld1, ol, p1, p2]
    refine W_floats ?_
    simp only [WT_cons, WT_nil]
    simp [hA.b2.ld1]
    refine WC.of (c493 D.d493 huX (i := j) (by omega) (by omega)) ?_
    rintro r X1 ⟨rfl, hr⟩
    rw [nth_digit, hdm] at hr
    subst hr
    simp [hA.b3.ld1]
    refine WC.of (c493 D.d493 hvX (i := j) (by omega) (by omega)) ?_
    rintro r X2 ⟨rfl, hr⟩
    rw [nth_digit, hdn] at hr
    subst hr
    simp only [WO_nil, Wk_nil, true_and]
    simp [hA.b6.ld1, q1, q2]
    simp [floatOk, wanted, AV.same_refl, hA.b2.ld1, hA.b3.ld1, hA.b6.ld1]
    simp [s0]
    refine WB.bool ?_ ?_
    · intro hlt
      simp at hlt
      have hlt' : dm < dn + c := by omega
      rw [if_pos hlt'] at g1 g2
      obtain ⟨X3, s3, A3⟩ := A1.setC 1
      obtain ⟨X4, s4, A4⟩ := A3.setO (i := (L : Int) - 1 - j) (by omega) (by rw [fd_len]; omega) ((dm : Int) - dn - c + 10)
      have e : (dm : Int) - dn - c + 10 = ((dm + 10 - (dn + c) : Nat) : Int) := by omega
      rw [tj, e, g1, fd_set hj] at A4
      simp [q3, s3, A3.b5.ld1, ia, s4]
      rw [g2]
      exact A4
    · intro hge
      simp at hge
      have hge' : ¬ dm < dn + c := by omega
      rw [if_neg hge'] at g1 g2
      obtain ⟨X4, s4, A4⟩ := A1.setO (i := (L : Int) - 1 - j) (by omega) (by rw [fd_len]; omega) ((dm : Int) - dn - c)
      have e : (dm : Int) - dn - c = ((dm - (dn + c) : Nat) : Int) := by omega
      rw [tj, e, g1, fd_set hj] at A4
      simp [A1.b5.ld1, ia, s4]
      rw [g2]
      exact A4
  · intro X hA
    simp [dfrT, pushM, hA.b5.ld1]
    refine WC.of (c458 D.d458 hA.own.1 (by rw [fd_len]; omega)) ?_
    rintro r X1 ⟨rfl, hr, hfr⟩
    simp
    have nb : (H6.new [vo]).next = H.next + 6 := by rw [new_next, n6]
    rw [nb]
    obtain ⟨w', _, k'⟩ := hA.wf.setObj hA.dq (o' := .dq false) rfl rfl
    have hlt : m - n < 10 ^ L := by
      have := dig_lt m
      rw [hL] at this
      omega
    rw [Nat.mod_eq_of_lt hlt, trimZ_fd _ _ hlt] at hr
    exact ⟨hA.dq, ⟨w', hA.keeps.trans (k'.mono fun g hg => by omega)⟩, some (H.next + 2), Own.obj ⟨hr, hfr _ hA.own.2⟩ hA.dq rfl, fun g hg => by simp at hg; omega⟩
end Go.Am

/- Contracts of package big: small numbers. -/
set_option linter.unusedVariables false
set_option linter.unusedSimpArgs false
namespace Go.Am
variable {T : Tab}
theorem rdig_len62 {n : Nat} (h : n < 2 ^ 63) : (rdig n).length ≤ 19 := rdig_len_le 19 n (Nat.lt_of_lt_of_le h (by decide))
theorem c462 (D : D462 T) {H : AHeap} (hw : WF H) {n : Nat} (hn : n < 2 ^ 63) : Calls T 462 [.int .i64 (n : Int)] H fun r H' => Fr H H' ∧ Made encI 1 H.next H' r (dig n) := by
  refine Calls.fn D.pr D.fn ?_
  simp [ir462]
  refine W_loop (fun (i : Nat) e X => e 0 = .int .i64 (i : Int) ∧ i ≤ n ∧ Fr H X ∧ ∃ l, Made encI 1 H.next X (e 3) l ∧ l ++ rdig i = rdig n) id n ?_ ?_
  · exact ⟨rfl, Nat.le_refl _, .refl hw, [], Made.nil, rfl⟩
  · rintro i e X ⟨h0, hin, fr, l, hm, hl⟩
    simp [h0]
    refine WB.bool ?_ ?_
    · intro hlt
      simp at hlt
      have h19 := rdig_len62 hn
      have hll : l.length ≤ 18 := by
        have := congrArg List.length hl
        rw [rdig_pos (n := i) (by omega)] at this
        simp at this
        omega
      have r1 : (i : Int).tmod 10 = ((i % 10 : Nat) : Int) := rfl
      have hb := hm.sl.form
      obtain ⟨v', X', p1, p2, p3, p4⟩ := push_n (bytes := 8) fr.wf fr.next hm ((i % 10 : Nat) : Int) (by omega) (by omega)
      obtain ⟨d, hd⟩ : ∃ d, i % 10 = d := ⟨_, rfl⟩
      rw [hd] at p1 p4 r1
      obtain ⟨z, hz⟩ : ∃ z, i / 10 = z := ⟨_, rfl⟩
      have q4 : IntKind.i64.wrap ((i : Int) / 10) = (z : Int) := by rw [show (i : Int) / 10 = ((i / 10 : Nat) : Int) by omega, hz, wrap64 (by omega) (by omega)]
      have q5 : IntKind.i64.wrap ((i : Int).tdiv 10) = (z : Int) := by rw [show (i : Int).tdiv 10 = ((i / 10 : Nat) : Int) from rfl, hz, wrap64 (by omega) (by omega)]
      have frX : Fr H X' := fr.step p2 p3 fun f hf => hf
      simp [h0, r1, wsem0_bsl1 (v := .int .i64 (d : Int)) rfl, p1]
      simp [h0, q4, q5]
      refine ⟨z, by omega, rfl, by omega, frX, _, p4, ?_⟩
      rw [← hl, rdig_pos (n := i) (by omega), hd, hz]
      simp
    · intro hge
      simp at hge
      have h0 : i = 0 := by omega
      subst h0
      rw [rdig_zero, List.append_nil] at hl
      subst hl
      simp
      refine WC.of (c495 D.d495 fr.wf hm (by have := rdig_len62 hn; omega)) ?_
      rintro r X' ⟨k1, k2, k3, k4⟩
      simp
      exact ⟨⟨k1, fr.keeps.trans k2⟩, k3⟩
end Go.Am

/- Products, column by column: the plain laws. -/
set_option linter.unusedVariables false
set_option linter.unusedSimpArgs false
namespace Go.Am
/-- What a row of columns is worth. -/
def VN : List Nat → Nat
  | [] => 0
  | d :: l => d * 10 ^ l.length + VN l
theorem VN_zero (n : Nat) : VN (List.replicate n 0) = 0 := by
  induction n with
  | zero => rfl
  | succ n ih => simp [List.replicate_succ, VN, ih]
theorem VN_set : ∀ (l : List Nat) (p x : Nat), p < l.length → VN (l.set p (l.getD p 0 + x)) = VN l + x * 10 ^ (l.length - 1 - p)
  | [], p, x, h => by simp at h
  | d :: l, 0, x, h => by
    simp [VN, Nat.add_mul]
    omega
  | d :: l, p + 1, x, h => by
    simp at h
    have := VN_set l p x (by omega)
    simp only [List.set_cons_succ, List.getD_cons_succ, VN, List.length_set, List.length_cons]
    rw [this, show l.length + 1 - 1 - (p + 1) = l.length - 1 - p by omega]
    omega
/-- A column is what stands there, from the lowest one on. -/
theorem VN_drop {S : List Nat} {j : Nat} (h : j < S.length) : VN (S.drop (S.length - (j + 1))) = S.getD (S.length - 1 - j) 0 * 10 ^ j + VN (S.drop (S.length - j)) := by
  have h1 : S.length - (j + 1) < S.length := by omega
  rw [List.drop_eq_getElem_cons h1]
  simp only [VN, List.length_drop]
  have e : S.length - (j + 1) + 1 = S.length - j := by omega
  rw [e]
  have e2 : S.length - (S.length - j) = j := by omega
  rw [e2]
  congr 1
  congr 1
  have e3 : S.length - 1 - j = S.length - (j + 1) := by omega
  rw [e3]
  simp [h1]
/-- The part of a number above a place. -/
def hi (n q : Nat) : Nat := n - n % 10 ^ q
theorem hi_zero (n : Nat) : hi n 0 = n := by simp [hi, Nat.mod_one]
theorem hi_step (n q : Nat) : hi n q = hi n (q + 1) + n / 10 ^ q % 10 * 10 ^ q := by
  unfold hi
  have h1 := Nat.mod_pow_succ (x := n) (b := 10) (k := q)
  have h2 := Nat.mod_le n (10 ^ q)
  have h3 := Nat.mod_le n (10 ^ (q + 1))
  rw [h1] at h3 ⊢
  rw [Nat.mul_comm (n / 10 ^ q % 10)]
  omega
theorem hi_all {n q : Nat} (h : n < 10 ^ q) : hi n q = 0 := by unfold hi; rw [Nat.mod_eq_of_lt h]; omega
/-- What the columns are worth when i rows are done, and k of the next one. -/
def part2 (m n la lb i k : Nat) : Nat := hi m (la - i) * n + m / 10 ^ (la - 1 - i) % 10 * 10 ^ (la - 1 - i) * hi n (lb - k)
theorem part2_step {m n la lb i k : Nat} (hi1 : i < la) (hk : k < lb) : part2 m n la lb i (k + 1) = part2 m n la lb i k + m / 10 ^ (la - 1 - i) % 10 * (n / 10 ^ (lb - 1 - k) % 10) * 10 ^ (la + lb - 1 - (i + k + 1)) := by
  unfold part2
  have e : lb - (k + 1) + 1 = lb - k := by omega
  have h := hi_step n (lb - (k + 1))
  rw [e] at h
  rw [h, show lb - (k + 1) = lb - 1 - k by omega, Nat.mul_add]
  have e2 : 10 ^ (la + lb - 1 - (i + k + 1)) = 10 ^ (la - 1 - i) * 10 ^ (lb - 1 - k) := by rw [← Nat.pow_add]; congr 1; omega
  rw [e2]
  have : m / 10 ^ (la - 1 - i) % 10 * 10 ^ (la - 1 - i) * (n / 10 ^ (lb - 1 - k) % 10 * 10 ^ (lb - 1 - k)) = m / 10 ^ (la - 1 - i) % 10 * (n / 10 ^ (lb - 1 - k) % 10) * (10 ^ (la - 1 - i) * 10 ^ (lb - 1 - k)) := by
    simp only [Nat.mul_assoc, Nat.mul_left_comm, Nat.mul_comm]
  omega
theorem part2_row {m n la lb i : Nat} (hn : n < 10 ^ lb) (hi1 : i < la) : part2 m n la lb i lb = hi m (la - (i + 1)) * n := by
  unfold part2
  rw [Nat.sub_self, hi_zero]
  have e : la - (i + 1) + 1 = la - i := by omega
  have h := hi_step m (la - (i + 1))
  rw [e] at h
  rw [h, show la - (i + 1) = la - 1 - i by omega, Nat.add_mul]
theorem part2_new {m n la lb i : Nat} (hn : n < 10 ^ lb) : part2 m n la lb i 0 = hi m (la - i) * n := by
  unfold part2
  rw [Nat.sub_zero, hi_all hn]
  omega
/-- The carries. -/
theorem carry_step {S : List Nat} {j : Nat} (h : j < S.length) :
    (S.getD (S.length - 1 - j) 0 + VN (S.drop (S.length - j)) / 10 ^ j) / 10 = VN (S.drop (S.length - (j + 1))) / 10 ^ (j + 1) ∧
    (S.getD (S.length - 1 - j) 0 + VN (S.drop (S.length - j)) / 10 ^ j) % 10 = VN (S.drop (S.length - (j + 1))) / 10 ^ j % 10 ∧
    VN (S.drop (S.length - (j + 1))) % 10 ^ j = VN (S.drop (S.length - j)) % 10 ^ j := by
  have hp : 0 < 10 ^ j := Nat.pow_pos (by decide)
  have e := VN_drop h
  have e1 : VN (S.drop (S.length - (j + 1))) / 10 ^ j = S.getD (S.length - 1 - j) 0 + VN (S.drop (S.length - j)) / 10 ^ j := by
    rw [e, Nat.add_comm, Nat.add_mul_div_right _ _ hp]; omega
  refine ⟨?_, ?_, ?_⟩
  · rw [Nat.pow_succ, ← Nat.div_div_eq_div_mul, e1]
  · rw [e1]
  · rw [e, Nat.add_comm, Nat.add_mul_mod_self_right]
/-- Columns as whole numbers. -/
def zs (S : List Nat) : List Int := S.map Int.ofNat
theorem zs_len (S : List Nat) : (zs S).length = S.length := by simp [zs]
theorem nth_zs {S : List Nat} {p : Nat} : nth (zs S) (p : Int) = ((S.getD p 0 : Nat) : Int) := by
  unfold nth zs
  simp only [List.getD_eq_getElem?_getD, Int.toNat_natCast, List.getElem?_map]
  cases S[p]? <;> rfl
theorem zs_set {S : List Nat} {p x : Nat} : (zs S).set p (x : Int) = zs (S.set p x) := by
  unfold zs
  rw [List.map_set]
  rfl
theorem zs_zero (n : Nat) : zs (List.replicate n 0) = List.replicate n 0 := by simp [zs]
theorem getD_set {S : List Nat} {p q x : Nat} (h : p < S.length) : (S.set p x).getD q 0 = if q = p then x else S.getD q 0 := by
  simp only [List.getD_eq_getElem?_getD, List.getElem?_set]
  by_cases e : q = p
  · subst e; simp [h]
  · rw [if_neg (Ne.symm e), if_neg e]
end Go.Am

/- Contracts of package big: products. -/
set_option linter.unusedVariables false
set_option linter.unusedSimpArgs false
namespace Go.Am
variable {T : Tab}
theorem c497 (D : D497 T) {H : AHeap} {v : AV} (hv : v.cell = true) : Calls T 497 [v] H fun r H' => r = .fn 503 [] [.ptr (some (H.next, 0))] ∧ H' = H.new [v] := by
  refine Calls.fn D.pr D.fn ?_
  have hc : v.cells = [v] := by cases v <;> simp_all [AV.cells, AV.cell]
  simp [ir497, hc, hv, psem]
theorem nth_dig' {n i : Nat} (h : i < (dig n).length) : nth (dig n) (i : Int) = ((n / 10 ^ ((dig n).length - 1 - i) % 10 : Nat) : Int) := by
  have := nth_dig (n := n) (i := (dig n).length - 1 - i) (by omega)
  rw [← this]
  congr 1
  omega
/-- The columns of a product. -/
structure Mu (H0 H : AHeap) (vs : AV) (S : List Nat) : Prop where
  wf : WF H
  keeps : Keeps (H0.next ≤ ·) H0 H
  own : Own encI 1 H vs (zs S) (some H0.next)
  b5 : Box H (H0.next + 1) (H0.next + 1) [vs]
  next : H.next = H0.next + 2
theorem Mu.set {H0 H : AHeap} {vs : AV} {S : List Nat} (h : Mu H0 H vs S) {p : Nat} (hp : p < S.length) (x : Nat) :
    ∃ H', wsem0 (.st 1) [elt vs 1 (p : Int), .int .i64 (x : Int)] H = some (.undef, H') ∧ Mu H0 H' vs (S.set p x) := by
  obtain ⟨H', q1, q2, q3, q4, q5⟩ := h.own.st1 h.wf (i := (p : Int)) (by omega) (by rw [zs_len]; omega) (x : Int)
  rw [Int.toNat_natCast, zs_set] at q3
  exact ⟨H', q1, q2, h.keeps.trans (q4.mono fun f hf => by simp at hf; omega), q3, h.b5.keeps h.wf q4 (by simp), by rw [q5, h.next]⟩
theorem Mu.first {H : AHeap} (hw : WF H) {L : Nat} (hL : L < 2 ^ 41) :
    ∃ H2, wsem0 (.mks 8 [.int .i64 0]) [.int .i64 (L : Int), .int .i64 (L : Int)] H = some (.slc (some (H.next, 0)) 1 L (some L), H.new (List.replicate L (AV.int .i64 0))) ∧
      wsem0 (.st 1) [.ptr (some (H.next + 1, 0)), .slc (some (H.next, 0)) 1 L (some L)] ((H.new (List.replicate L (AV.int .i64 0))).new [.slc none 0 0 none]) = some (.undef, H2) ∧ Mu H H2 (.slc (some (H.next, 0)) 1 L (some L)) (List.replicate L 0) := by
  obtain ⟨mk1, mk2⟩ := mk0 hw (n := L) hL
  have w1 := hw.new (cs := List.replicate L (AV.int .i64 0))
  have k1 := hw.keeps_new (cs := List.replicate L (AV.int .i64 0)) (D := fun _ => False)
  have w2 := w1.new (cs := [.slc none 0 0 none])
  have k2 := w1.keeps_new (cs := [.slc none 0 0 none]) (D := fun _ => False)
  have B5 : Box ((H.new (List.replicate L (AV.int .i64 0))).new [.slc none 0 0 none]) (H.next + 1) (H.next + 1) [.slc none 0 0 none] := Box.new
  obtain ⟨H2, q1, q2, q3, q4, q5⟩ := B5.st1 w2 (y := .slc (some (H.next, 0)) 1 L (some L)) rfl
  refine ⟨H2, mk1, q1, q2, ((k1.trans k2).mono fun _ h => h.elim).trans (q4.mono fun f hf => by omega), ?_, q3, by rw [q5]; rfl⟩
  rw [zs_zero]
  exact (mk2.keeps w1 k2 (fun _ _ h => h)).keeps w2 q4 (fun g hg => by simp at hg; omega)
/-- .. and of their carries. -/
structure Mc (H0 H : AHeap) (vs vo : AV) (S : List Nat) (l : List Int) (c : Int) : Prop where
  wf : WF H
  keeps : Keeps (H0.next ≤ ·) H0 H
  own : Own encI 1 H vs (zs S) (some H0.next)
  b5 : Box H (H0.next + 1) (H0.next + 1) [vs]
  b10 : Box H (H0.next + 2) (H0.next + 2) [.int .i64 c]
  out : Own encI 1 H vo l (some (H0.next + 3))
  b11 : Box H (H0.next + 4) (H0.next + 4) [vo]
  bc : Box H (H0.next + 5) (H0.next + 5) [vs]
  dq : H.blk (H0.next + 6) = some (.dq true)
theorem Mc.setC {H0 H : AHeap} {vs vo : AV} {S : List Nat} {l : List Int} {c : Int} (h : Mc H0 H vs vo S l c) (x : Int) :
    ∃ H', wsem0 (.st 1) [.ptr (some (H0.next + 2, 0)), .int .i64 x] H = some (.undef, H') ∧ Mc H0 H' vs vo S l x := by
  obtain ⟨H', q1, q2, q3, q4, q5⟩ := h.b10.st1 h.wf (y := .int .i64 x) rfl
  exact ⟨H', q1, q2, h.keeps.trans (q4.mono fun f hf => by omega), h.own.keeps h.wf q4 (fun g hg => by simp at hg; omega), h.b5.keeps h.wf q4 (by omega), q3, h.out.keeps h.wf q4 (fun g hg => by simp at hg; omega), h.b11.keeps h.wf q4 (by omega), h.bc.keeps h.wf q4 (by omega), q4.obj _ _ h.dq rfl (by omega)⟩
theorem Mc.setO {H0 H : AHeap} {vs vo : AV} {S : List Nat} {l : List Int} {c : Int} (h : Mc H0 H vs vo S l c) {i : Int} (h0 : 0 ≤ i) (h1 : i < l.length) (x : Int) :
    ∃ H', wsem0 (.st 1) [elt vo 1 i, .int .i64 x] H = some (.undef, H') ∧ Mc H0 H' vs vo S (l.set i.toNat x) c := by
  obtain ⟨H', q1, q2, q3, q4, q5⟩ := h.out.st1 h.wf h0 h1 x
  have ne : ∀ g, g ≠ H0.next + 3 → ¬ some (H0.next + 3) = some g := fun g hg e => hg (by simpa using e.symm)
  exact ⟨H', q1, q2, h.keeps.trans (q4.mono fun f hf => by simp at hf; omega), h.own.keeps h.wf q4 (fun g hg => ne _ (by simp at hg; omega)), h.b5.keeps h.wf q4 (ne _ (by omega)), h.b10.keeps h.wf q4 (ne _ (by omega)), q3, h.b11.keeps h.wf q4 (ne _ (by omega)), h.bc.keeps h.wf q4 (ne _ (by omega)), q4.obj _ _ h.dq rfl (ne _ (by omega))⟩
theorem Mc.first {H0 H : AHeap} {vs : AV} {S : List Nat} (h : Mu H0 H vs S) (hv : vs.cell = true) {L : Nat} (hL : L < 2 ^ 41) :
    ∃ H3 H6, wsem0 (.st 1) [.ptr (some (H0.next + 2, 0)), .int .i64 0] (H.new [.int .i64 0]) = some (.undef, H3) ∧ H3.next = H0.next + 3 ∧ rsem (.ld 1 false) [.ptr (some (H0.next + 1, 0))] H3 = some vs ∧
      wsem0 (.mks 8 [.int .i64 0]) [.int .i64 (L : Int), .int .i64 (L : Int)] H3 = some (.slc (some (H0.next + 3, 0)) 1 L (some L), H3.new (List.replicate L (AV.int .i64 0))) ∧
      wsem0 (.st 1) [.ptr (some (H0.next + 4, 0)), .slc (some (H0.next + 3, 0)) 1 L (some L)] ((H3.new (List.replicate L (AV.int .i64 0))).new [.slc none 0 0 none]) = some (.undef, H6) ∧ H6.next = H0.next + 5 ∧ rsem (.ld 1 false) [.ptr (some (H0.next + 1, 0))] H6 = some vs ∧
      Mc H0 (H6.new [vs]).newLoop vs (.slc (some (H0.next + 3, 0)) 1 L (some L)) S (List.replicate L 0) 0 := by
  have w1 := h.wf.new (cs := [.int .i64 0])
  have k1 := h.wf.keeps_new (cs := [.int .i64 0]) (D := fun _ => False)
  have B10 : Box (H.new [.int .i64 0]) (H0.next + 2) (H0.next + 2) [.int .i64 0] := by rw [← h.next]; exact Box.new
  obtain ⟨H3, q1, q2, q3, q4, q5⟩ := B10.st1 w1 (y := .int .i64 0) rfl
  have n3 : H3.next = H0.next + 3 := by rw [q5, new_next, h.next]
  obtain ⟨mk1, mk2⟩ := mk0 q2 (n := L) hL
  have w4 := q2.new (cs := List.replicate L (AV.int .i64 0))
  have k4 := q2.keeps_new (cs := List.replicate L (AV.int .i64 0)) (D := fun _ => False)
  have w5 := w4.new (cs := [.slc none 0 0 none])
  have k5 := w4.keeps_new (cs := [.slc none 0 0 none]) (D := fun _ => False)
  have B11 : Box ((H3.new (List.replicate L (AV.int .i64 0))).new [.slc none 0 0 none]) (H0.next + 4) (H0.next + 4) [.slc none 0 0 none] := by
    have : (H3.new (List.replicate L (AV.int .i64 0))).next = H0.next + 4 := by rw [new_next, n3]
    rw [← this]; exact Box.new
  obtain ⟨H6, p1, p2, p3, p4, p5⟩ := B11.st1 w5 (y := .slc (some (H0.next + 3, 0)) 1 L (some L)) rfl
  have n6 : H6.next = H0.next + 5 := by rw [p5, new_next, new_next, n3]
  have w7 := p2.new (cs := [vs])
  have k7 := p2.keeps_new (cs := [vs]) (D := fun _ => False)
  have Bc : Box (H6.new [vs]) (H0.next + 5) (H0.next + 5) [vs] := by rw [← n6]; exact Box.new
  obtain ⟨wl, bl, kl⟩ := w7.newObj (o := .dq true) rfl
  obtain ⟨wb, kb⟩ := wl.bump 1
  rw [n3] at mk1 mk2
  have kA : Keeps (fun g => g = H0.next + 2) H H3 := (k1.mono fun _ h => h.elim).trans q4
  have kB : Keeps (fun g => g = H0.next + 4) (H3.new (List.replicate L (AV.int .i64 0))) H6 := (k5.mono fun _ h => h.elim).trans p4
  have kC : Keeps (fun _ => False) H6 (H6.new [vs]).newLoop := (k7.trans (kl _)).trans (kb _)
  have b5' := (((h.b5.keeps h.wf kA (by omega)).keeps q2 k4 (fun h => h)).keeps w4 kB (by omega))
  refine ⟨H3, H6, q1, n3, (h.b5.keeps h.wf kA (by omega)).ld1, mk1, p1, n6, b5'.ld1, ⟨wb, ?_, ?_, b5'.keeps p2 kC (fun h => h), ?_, ?_, p3.keeps p2 kC (fun h => h), Bc.keeps w7 ((kl _).trans (kb (fun _ => False))) (fun h => h), ?_⟩⟩
  · exact (((h.keeps.trans (kA.mono fun f hf => by omega)).trans (k4.mono fun _ h => h.elim)).trans (kB.mono fun f hf => by omega)).trans (kC.mono fun _ h => h.elim)
  · exact (((h.own.keeps h.wf kA (fun g hg => by simp at hg; omega)).keeps q2 k4 (fun _ _ h => h)).keeps w4 kB (fun g hg => by simp at hg; omega)).keeps p2 kC (fun _ _ h => h)
  · exact (((q3.keeps q2 k4 (fun h => h)).keeps w4 kB (by omega))).keeps p2 kC (fun h => h)
  · exact (mk2.keeps w4 kB (fun g hg => by simp at hg; omega)).keeps p2 kC (fun _ _ h => h)
  · have : (H6.new [vs]).next = H0.next + 6 := by rw [new_next, n6]
    rw [← this]
    exact bl
end Go.Am

/- The product of two numbers without signs. -/
set_option linter.unusedVariables false
set_option linter.unusedSimpArgs false
namespace Go.Am
variable {T : Tab}
theorem VN_le {Bd : Nat} : ∀ (l : List Nat), (∀ x ∈ l, x ≤ Bd) → VN l ≤ Bd * 10 ^ l.length
  | [], _ => by simp [VN]
  | d :: l, h => by
    have h1 := VN_le l fun x hx => h x (by simp [hx])
    have h2 := Nat.mul_le_mul_right (10 ^ l.length) (h d (by simp))
    simp only [VN, List.length_cons, Nat.pow_succ]
    have : Bd * (10 ^ l.length * 10) = 10 * (Bd * 10 ^ l.length) := by rw [← Nat.mul_assoc, Nat.mul_comm]
    omega
theorem c478 (D : D478 T) {H : AHeap} (hw : WF H) {u v : AV} {m n : Nat} (hu : Sl encI 1 H u (dig m)) (hv : Sl encI 1 H v (dig n)) (hm : (dig m).length < 2 ^ 20) (hn : (dig n).length < 2 ^ 20) : Calls T 478 [u, v] H fun r H' => Fr H H' ∧ Made encI 1 H.next H' r (dig (m * n)) := by
  refine Calls.fnD D.pr D.fn ?_
  obtain ⟨la, hla⟩ : ∃ la, (dig m).length = la := ⟨_, rfl⟩
  obtain ⟨lb, hlb⟩ : ∃ lb, (dig n).length = lb := ⟨_, rfl⟩
  rw [hla] at hm
  rw [hlb] at hn
  obtain ⟨L, hL⟩ : ∃ L, la + lb = L := ⟨_, rfl⟩
  have mlt : m < 10 ^ la := by rw [← hla]; exact dig_lt m
  have nlt : n < 10 ^ lb := by rw [← hlb]; exact dig_lt n
  have ul : psem .len [u] = some (.int .i64 la) := by rw [hu.len, hla]
  have vl : psem .len [v] = some (.int .i64 lb) := by rw [hv.len, hlb]
  have e1 : IntKind.i64.wrap ((la : Int) + lb) = (L : Int) := by rw [wrap_small (by omega) (by omega)]; omega
  have hprod : la * lb ≤ 2 ^ 40 := Nat.le_trans (Nat.mul_le_mul (Nat.le_of_lt hm) (Nat.le_of_lt hn)) (by decide)
  obtain ⟨H2, mk1, s1, M0⟩ := Mu.first hw (L := L) (by omega)
  have sc : (AV.slc none 0 0 none).cells = [.slc none 0 0 none] := rfl
  have scc : (AV.slc none 0 0 none).cell = true := rfl
  simp [ir478, ul, vl, e1, mk1, new_next, s1, sc, scc, Nat.add_assoc]
  obtain ⟨vs, hvs⟩ : ∃ vs, AV.slc (some (H.next, 0)) 1 L (some L) = vs := ⟨_, rfl⟩
  rw [hvs] at M0
  have vsc : vs.cell = true := by rw [← hvs]; rfl
  refine W_loop (fun (w : Nat) e X => e 0 = u ∧ e 1 = v ∧ e 5 = .ptr (some (H.next + 1, 0)) ∧ e 20 = u ∧ e 21 = .int .i64 la ∧ e 1048576 = .undef ∧ ∃ i : Nat, w = la - i ∧ i ≤ la ∧ e 22 = .int .i64 i ∧ ∃ S : List Nat, S.length = L ∧ Mu H X vs S ∧ VN S = hi m (la - i) * n ∧ ∀ p, S.getD p 0 ≤ 81 * (i * lb)) id la ?_ ?_
  · exact ⟨rfl, rfl, rfl, rfl, rfl, rfl, 0, by simp, by simp, rfl, List.replicate L 0, by simp, M0, by rw [VN_zero, Nat.sub_zero, hi_all mlt]; omega, fun p => by rw [List.getD_eq_getElem?_getD, List.getElem?_replicate]; split <;> simp⟩
  · rintro w e X ⟨h0, h1, h5, h20, h21, hd, i, hw1, hi1, h22, S, hS, hM, hV, hB⟩
    simp [h20, h21, h22]
    refine WB.bool ?_ ?_
    · intro hlt
      simp at hlt
      have frX : Fr H X := ⟨hM.wf, hM.keeps⟩
      have huX := hu.fr hw frX
      obtain ⟨a, ha⟩ : ∃ a, m / 10 ^ (la - 1 - i) % 10 = a := ⟨_, rfl⟩
      have ald : nth (dig m) (i : Int) = (a : Int) := by rw [nth_dig' (by omega), hla, ha]
      have a10 : a < 10 := by rw [← ha]; exact Nat.mod_lt _ (by decide)
      simp (disch := omega) [h0, h1, h20, h21, h22, huX.ia, huX.ld, hla, ald, vl]
      refine W_loop (fun (w2 : Nat) e X => e 0 = u ∧ e 1 = v ∧ e 5 = .ptr (some (H.next + 1, 0)) ∧ e 20 = u ∧ e 21 = .int .i64 la ∧ e 22 = .int .i64 i ∧ e 27 = v ∧ e 28 = .int .i64 lb ∧ e 6 = .int .i64 i ∧ e 7 = .int .i64 a ∧ e 1048576 = .undef ∧ ∃ k : Nat, w2 = lb - k ∧ k ≤ lb ∧ e 29 = .int .i64 k ∧ ∃ S : List Nat, S.length = L ∧ Mu H X vs S ∧ VN S = part2 m n la lb i k ∧ ∀ p, S.getD p 0 ≤ 81 * (i * lb + k)) id lb ?_ ?_
      · exact ⟨h0, h1, h5, h20, h21, h22, rfl, rfl, rfl, rfl, hd, 0, by simp, by simp, rfl, S, hS, hM, by rw [part2_new nlt, hV], by simpa using hB⟩
      · rintro w2 e2 X2 ⟨x0, x1, x5, x20, x21, x22, x27, x28, x6, x7, xd, k, hw2, hk1, x29, S2, hS2, hM2, hV2, hB2⟩
        simp [x28, x29]
        refine WB.bool ?_ ?_
        · intro hk
          simp at hk
          have frX2 : Fr H X2 := ⟨hM2.wf, hM2.keeps⟩
          have hvX := hv.fr hw frX2
          obtain ⟨b, hb⟩ : ∃ b, n / 10 ^ (lb - 1 - k) % 10 = b := ⟨_, rfl⟩
          have bld : nth (dig n) (k : Int) = (b : Int) := by rw [nth_dig' (by omega), hlb, hb]
          have b10 : b < 10 := by rw [← hb]; exact Nat.mod_lt _ (by decide)
          have hab : a * b ≤ 81 := Nat.mul_le_mul (show a ≤ 9 by omega) (show b ≤ 9 by omega)
          obtain ⟨p, hp⟩ : ∃ p, i + k + 1 = p := ⟨_, rfl⟩
          have e2' : IntKind.i64.wrap ((i : Int) + k) = (i : Int) + k := wrap_small (by omega) (by omega)
          have e3' : IntKind.i64.wrap ((i : Int) + k + 1) = (p : Int) := by rw [wrap_small (by omega) (by omega)]; omega
          have hbound : i * lb + k < la * lb + 1 := by
            have h1 : i * lb + lb ≤ la * lb := by
              have := Nat.mul_le_mul_right lb (show i + 1 ≤ la by omega)
              rw [Nat.add_mul, Nat.one_mul] at this
              exact this
            omega
          obtain ⟨c, hc⟩ : ∃ c, S2.getD p 0 = c := ⟨_, rfl⟩
          have cb : c ≤ 81 * (i * lb + k) := by rw [← hc]; exact hB2 p
          have e4' : IntKind.i64.wrap ((a : Int) * b) = ((a * b : Nat) : Int) := by rw [show (a : Int) * b = ((a * b : Nat) : Int) by simp, wrap_small (by omega) (by omega)]
          obtain ⟨z, hz⟩ : ∃ z, c + a * b = z := ⟨_, rfl⟩
          have e5' : IntKind.i64.wrap ((c : Int) + (a : Int) * b) = (z : Int) := by rw [show (c : Int) + (a : Int) * b = ((c + a * b : Nat) : Int) by simp, hz, wrap_small (by omega) (by omega)]
          have pl : p < S2.length := by omega
          have ia : psem (.ia 1) [vs, .int .i64 (p : Int)] = some (elt vs 1 (p : Int)) := hM2.own.1.ia (by omega) (by rw [zs_len]; omega)
          have ld : rsem (.ld 1 false) [elt vs 1 (p : Int)] X2 = some (.int .i64 (c : Int)) := by
            have := hM2.own.1.ld (i := (p : Int)) (by omega) (by rw [zs_len]; omega)
            rw [nth_zs, hc] at this
            exact this
          obtain ⟨X3, s3, M3⟩ := hM2.set pl z
          simp (disch := omega) [x0, x1, x5, x6, x7, x27, x29, hvX.ia, hvX.ld, hlb, bld, hM2.b5.ld1, e2', e3', ia, ld, e4', e5', s3]
          have e6' : IntKind.i64.wrap ((k : Int) + 1) = ((k + 1 : Nat) : Int) := by rw [wrap_small (by omega) (by omega)]; rfl
          simp [x0, x1, x5, x6, x7, x20, x21, x22, x27, x28, x29, xd, wrap_small (n := (k : Int) + 1) (by omega) (by omega)]
          refine ⟨lb - (k + 1), by omega, k + 1, rfl, by omega, by simp, S2.set p z, by simp [hS2], M3, ?_, ?_⟩
          · have hset := VN_set S2 p (a * b) pl
            rw [hc, hz] at hset
            rw [hset, hV2, hS2, part2_step (by omega) (by omega), ha, hb, ← hL, ← hp]
          · intro q
            have hgd := getD_set (S := S2) (q := q) (x := z) pl
            rw [List.getD_eq_getElem?_getD] at hgd
            rw [hgd]
            split
            · have : 81 * (i * lb + (k + 1)) = 81 * (i * lb + k) + 81 := by omega
              omega
            · have := hB2 q
              omega
        · intro hk
          simp at hk
          have hkl : k = lb := by omega
          subst hkl
          simp [x22]
          have e6' : IntKind.i64.wrap ((i : Int) + 1) = (i : Int) + 1 := wrap_small (by omega) (by omega)
          simp [x0, x1, x5, x20, x21, xd, e6']
          refine ⟨la - (i + 1), by omega, i + 1, rfl, by omega, by simp, S2, hS2, hM2, ?_, ?_⟩
          · rw [hV2, part2_row nlt (by omega)]
          · intro q
            have := hB2 q
            rw [Nat.add_mul, Nat.one_mul]
            exact this
    · intro hge
      simp at hge
      have hil : la = i := by omega
      subst hil
      rw [Nat.sub_self, hi_zero] at hV
      obtain ⟨H3, H6, t1, t2, t3, t4, t5, t6, t7, A0⟩ := Mc.first hM vsc (L := L) (by omega)
      have vsl : psem .len [vs] = some (.int .i64 L) := by rw [hM.own.1.len, zs_len, hS]
      have ic : (AV.int .i64 0).cells = [.int .i64 0] := rfl
      have icc : (AV.int .i64 0).cell = true := rfl
      have nX := hM.next
      simp [h5, nX, ic, icc, t1, t2, t3, vsl, t4, new_next, sc, scc, Nat.add_assoc, t5, t7]
      refine WC.of (c497 D.d497 (v := vs) vsc) ?_
      rintro r H7 ⟨rfl, rfl⟩
      simp [t6]
      obtain ⟨vo, hvo⟩ : ∃ vo, AV.slc (some (H.next + 3, 0)) 1 L (some L) = vo := ⟨_, rfl⟩
      rw [hvo] at A0 ⊢
      have hS' : ∀ x ∈ S, x ≤ 81 * 2 ^ 40 := by
        intro x hx
        obtain ⟨p, hp, rfl⟩ := List.getElem_of_mem hx
        have := hB p
        simp [hp] at this
        omega
      refine W_back (L := L) (vs := vs) (bc := H.next + 5) (f := 503) (by simp [Env.ev]) (D.d497.d503.fn.trans (congrArg some ir503_eq)) (by omega) (fun j X => Mc H X vs vo S (fd L (VN (S.drop (L - j)) % 10 ^ j)) ((VN (S.drop (L - j)) / 10 ^ j : Nat) : Int)) ?_ (fun j X h => h.bc.ld1) (fun j X h => ⟨_, h.own.1, by rw [zs_len, hS]⟩) ?_ ?_
      · have z : VN (S.drop (L - 0)) = 0 := by rw [Nat.sub_zero, ← hS, List.drop_length]; rfl
        rw [z, Nat.zero_mod, fd_zero, Nat.zero_div]
        exact A0
      · intro j X x hj hA
        obtain ⟨c, hc⟩ : ∃ c, VN (S.drop (L - j)) / 10 ^ j = c := ⟨_, rfl⟩
        obtain ⟨d, hdd⟩ : ∃ d, S.getD (L - 1 - j) 0 = d := ⟨_, rfl⟩
        have hp : 0 < 10 ^ j := Nat.pow_pos (by decide)
        have cb : c ≤ 81 * 2 ^ 40 := by
          have h1 := VN_le (S.drop (L - j)) (Bd := 81 * 2 ^ 40) fun x hx => hS' x (List.mem_of_mem_drop hx)
          have h2 : (S.drop (L - j)).length = j := by rw [List.length_drop, hS]; omega
          rw [h2] at h1
          rw [← hc]
          exact Nat.div_le_of_le_mul (by rw [Nat.mul_comm]; exact h1)
        have db : d ≤ 81 * 2 ^ 40 := by
          have := hB (L - 1 - j)
          rw [hdd] at this
          omega
        obtain ⟨g1, g2, g3⟩ := carry_step (S := S) (j := j) (by omega)
        rw [hS, hdd, hc] at g1 g2
        rw [hS] at g3
        rw [hc, ← g3] at hA
        obtain ⟨s, hs⟩ : ∃ s, d + c = s := ⟨_, rfl⟩
        rw [hs] at g1 g2
        obtain ⟨z, hz⟩ : ∃ z, s / 10 = z := ⟨_, rfl⟩
        obtain ⟨r, hr⟩ : ∃ r, s % 10 = r := ⟨_, rfl⟩
        have q2 : IntKind.i64.wrap ((d : Int) + c) = (s : Int) := by rw [wrap_small (by omega) (by omega)]; omega
        have q3 : (s : Int).tmod 10 = (r : Int) := by rw [← hr]; rfl
        have q4 : IntKind.i64.wrap ((s : Int).tdiv 10) = (z : Int) := by rw [show (s : Int).tdiv 10 = ((s / 10 : Nat) : Int) from rfl, hz, wrap_small (by omega) (by omega)]
        have q5 : IntKind.i64.wrap ((s : Int) / 10) = (z : Int) := by rw [show (s : Int) / 10 = ((s / 10 : Nat) : Int) by omega, hz, wrap_small (by omega) (by omega)]
        obtain ⟨q, hq⟩ : ∃ q : Nat, L - 1 - j = q := ⟨_, rfl⟩
        have qz : (L : Int) - 1 - j = (q : Int) := by omega
        have ias : psem (.ia 1) [vs, .int .i64 ((L : Int) - 1 - j)] = some (elt vs 1 ((L : Int) - 1 - j)) := hA.own.1.ia (by omega) (by rw [zs_len]; omega)
        have lds : rsem (.ld 1 false) [elt vs 1 ((L : Int) - 1 - j)] X = some (.int .i64 (d : Int)) := by
          have := hA.own.1.ld (i := (q : Int)) (by omega) (by rw [zs_len]; omega)
          rw [nth_zs, ← hq, hdd] at this
          rw [qz, ← hq]
          exact this
        have iao : psem (.ia 1) [vo, .int .i64 ((L : Int) - 1 - j)] = some (elt vo 1 ((L : Int) - 1 - j)) := hA.out.1.ia (by omega) (by rw [fd_len]; omega)
        obtain ⟨Y, s3, A1⟩ := hA.setO (i := (L : Int) - 1 - j) (by omega) (by rw [fd_len]; omega) ((r : Nat) : Int)
        obtain ⟨Z, s4, A2⟩ := A1.setC ((z : Nat) : Int)
        have tj : ((L : Int) - 1 - j).toNat = L - 1 - j := by omega
        rw [tj, ← hr, g2, fd_set hj] at A2
        rw [← hz, g1] at A2
        simp [putAll, dfrT, h5, hA.b5.ld1, ias, lds, hA.b10.ld1, q2]
        simp [hA.b11.ld1, q3, q4, q5, iao, s3, s4]
        exact A2
      · intro X hA
        rw [Nat.sub_self, List.drop_zero, hV] at hA
        simp [dfrT, pushM, hd, hA.b11.ld1]
        refine WC.of (c458 D.d458 hA.out.1 (by rw [fd_len]; omega)) ?_
        rintro r X1 ⟨rfl, hr, hfr⟩
        simp [hd]
        have nb : (H6.new [vs]).next = H.next + 6 := by rw [new_next, t6]
        rw [nb]
        obtain ⟨w', _, k'⟩ := hA.wf.setObj hA.dq (o' := .dq false) rfl rfl
        have hlt : m * n < 10 ^ L := by
          rw [← hL, Nat.pow_add]
          exact Nat.mul_lt_mul'' mlt nlt
        rw [Nat.mod_eq_of_lt hlt, trimZ_fd _ _ hlt] at hr
        exact ⟨hA.dq, ⟨w', hA.keeps.trans (k'.mono fun g hg => by omega)⟩, some (H.next + 3), Own.obj ⟨hr, hfr _ hA.out.2⟩ hA.dq rfl, fun g hg => by simp at hg; omega⟩
end Go.Am

/- Comparisons and quotients of rows of digits: the plain laws. -/
set_option linter.unusedVariables false
set_option linter.unusedSimpArgs false
namespace Go.Am
theorem cmpL_fd : ∀ (L m n : Nat), cmpL (fd L m) (fd L n) = cmpZ ((m % 10 ^ L : Nat) : Int) ((n % 10 ^ L : Nat) : Int)
  | 0, m, n => by simp [fd, cmpL, cmpZ, Nat.mod_one]
  | L + 1, m, n => by
    rw [fd_head, fd_head]
    have t1 := Nat.mod_pow_succ (x := m) (b := 10) (k := L)
    have t2 := Nat.mod_pow_succ (x := n) (b := 10) (k := L)
    have l1 : m % 10 ^ L < 10 ^ L := Nat.mod_lt _ (Nat.pow_pos (by decide))
    have l2 : n % 10 ^ L < 10 ^ L := Nat.mod_lt _ (Nat.pow_pos (by decide))
    rw [t1, t2]
    obtain ⟨a, ha⟩ : ∃ a, m / 10 ^ L % 10 = a := ⟨_, rfl⟩
    obtain ⟨b, hb⟩ : ∃ b, n / 10 ^ L % 10 = b := ⟨_, rfl⟩
    rw [ha, hb]
    simp only [cmpL, cmpL_fd L m n]
    have key1 : a < b → m % 10 ^ L + 10 ^ L * a < n % 10 ^ L + 10 ^ L * b := by
      intro h
      have := Nat.mul_le_mul_left (10 ^ L) (show a + 1 ≤ b by omega)
      rw [Nat.mul_add, Nat.mul_one] at this
      omega
    have key2 : b < a → n % 10 ^ L + 10 ^ L * b < m % 10 ^ L + 10 ^ L * a := by
      intro h
      have := Nat.mul_le_mul_left (10 ^ L) (show b + 1 ≤ a by omega)
      rw [Nat.mul_add, Nat.mul_one] at this
      omega
    rcases Nat.lt_trichotomy a b with h | h | h
    · have := key1 h
      have e1 : cmpZ (a : Int) b = -1 := by unfold cmpZ; rw [if_pos (by omega)]
      rw [e1, if_pos (by decide)]
      unfold cmpZ; rw [if_pos (by omega)]
    · subst h
      have e1 : cmpZ (a : Int) a = 0 := by unfold cmpZ; rw [if_neg (by omega), if_neg (by omega)]
      rw [e1, if_neg (by decide)]
      unfold cmpZ
      by_cases h1 : m % 10 ^ L < n % 10 ^ L
      · rw [if_pos (by omega), if_pos (by omega)]
      · rw [if_neg (by omega), if_neg (show ¬ (((m % 10 ^ L + 10 ^ L * a : Nat) : Int) < ((n % 10 ^ L + 10 ^ L * a : Nat) : Int)) by omega)]
        by_cases h2 : n % 10 ^ L < m % 10 ^ L
        · rw [if_pos (by omega), if_pos (by omega)]
        · rw [if_neg (by omega), if_neg (by omega)]
    · have := key2 h
      have e1 : cmpZ (a : Int) b = 1 := by unfold cmpZ; rw [if_neg (by omega), if_pos (by omega)]
      rw [e1, if_pos (by decide)]
      unfold cmpZ; rw [if_neg (by omega), if_pos (by omega)]
/-- What cmp gives. -/
def cmpD (m n : Nat) : Int := if (dig m).length = (dig n).length then cmpL (dig m) (dig n) else ((dig m).length : Int) - (dig n).length
theorem cmpD_spec (m n : Nat) : (cmpD m n < 0 ↔ m < n) ∧ (cmpD m n = 0 ↔ m = n) ∧ -(2 ^ 40) < cmpD m n + ((dig n).length : Int) ∧ True := by
  have len : ∀ a b : Nat, (dig a).length < (dig b).length → a < b := by
    intro a b h
    apply Classical.byContradiction
    intro hn
    have := dig_len_mono (show b ≤ a by omega)
    omega
  unfold cmpD
  by_cases h : (dig m).length = (dig n).length
  · rw [if_pos h]
    obtain ⟨L, hL⟩ : ∃ L, (dig n).length = L := ⟨_, rfl⟩
    have e1 : dig m = fd L m := by rw [dig_fd (n := m), h, hL]
    have e2 : dig n = fd L n := by rw [dig_fd (n := n), hL]
    have m1 : m < 10 ^ L := by rw [← hL, ← h]; exact dig_lt m
    have n1 : n < 10 ^ L := by rw [← hL]; exact dig_lt n
    rw [e1, e2, cmpL_fd, Nat.mod_eq_of_lt m1, Nat.mod_eq_of_lt n1]
    unfold cmpZ
    refine ⟨?_, ?_, ?_, trivial⟩
    · split
      · constructor <;> omega
      · split <;> constructor <;> omega
    · split
      · constructor <;> omega
      · split <;> constructor <;> omega
    · split
      · omega
      · split <;> omega
  · rw [if_neg h]
    refine ⟨?_, ?_, by omega, trivial⟩
    · constructor
      · intro h1; exact len _ _ (by omega)
      · intro h1
        have := dig_len_mono (show m ≤ n by omega)
        omega
    · constructor
      · intro h1; omega
      · rintro rfl; exact absurd rfl h
theorem cmpD_ge {m n : Nat} : 0 ≤ cmpD m n ↔ n ≤ m := by
  have := (cmpD_spec m n).1
  omega
theorem dig_snoc {r d : Nat} (hd : d < 10) : trimZ (dig r ++ [(d : Int)]) = dig (10 * r + d) := by
  have h1 := fd_succ (dig r).length (10 * r + d)
  rw [show (10 * r + d) / 10 = r by omega, show (10 * r + d) % 10 = d by omega, ← dig_fd] at h1
  rw [← h1]
  refine trimZ_fd _ _ ?_
  have := dig_lt r
  rw [Nat.pow_succ]
  omega
theorem fd_snoc {i q d : Nat} (hd : d < 10) : fd i q ++ [(d : Int)] = fd (i + 1) (10 * q + d) := by
  rw [fd_succ, show (10 * q + d) / 10 = q by omega, show (10 * q + d) % 10 = d by omega]
theorem div_step (x d n : Nat) (hn : 0 < n) : (10 * x + d) / n = 10 * (x / n) + (10 * (x % n) + d) / n ∧ (10 * x + d) % n = (10 * (x % n) + d) % n := by
  have h := Nat.div_add_mod x n
  have e : 10 * x + d = (10 * (x % n) + d) + n * (10 * (x / n)) := by
    conv => lhs; rw [← h]
    rw [Nat.mul_add, ← Nat.mul_assoc, Nat.mul_comm 10 n, Nat.mul_assoc]
    omega
  rw [e, Nat.add_mul_div_left _ _ hn, Nat.add_mul_mod_self_left]
  refine ⟨by omega, rfl⟩
end Go.Am

/- Contracts of package big: quotients of numbers without signs. -/
set_option linter.unusedVariables false
set_option linter.unusedSimpArgs false
namespace Go.Am
variable {T : Tab}
/-- One more behind a slice that has no room. -/
theorem app_clip {H : AHeap} (hw : WF H) {p : Option (Nat × Nat)} {sv : Nat} {l : List Int} (hv : Sl encI 1 H (.slc p sv l.length (some l.length)) l) (hl : l.length < 2 ^ 40) (x : Int) :
    wsem0 (.app 1 8) [.slc p sv l.length (some l.length), .slc (some (H.next, 0)) 1 1 (some 1)] (H.new [.int .i64 x]) = some (.slc (some (H.next + 1, 0)) 1 (l.length + 1) none, (H.new [.int .i64 x]).new ((l ++ [x]).map encI)) ∧
    Own encI 1 ((H.new [.int .i64 x]).new ((l ++ [x]).map encI)) (.slc (some (H.next + 1, 0)) 1 (l.length + 1) none) (l ++ [x]) (some (H.next + 1)) ∧ Fr H ((H.new [.int .i64 x]).new ((l ++ [x]).map encI)) := by
  have w1 := hw.new (cs := [.int .i64 x])
  have o1 := hw.own_new (enc := encI) (sz := 1) (l := [x]) (cs := [.int .i64 x]) (cap := some 1) (Cell.len _) (by simp) (by simp) (by simp [AV.cells])
  have o1 : Own encI 1 (H.new [.int .i64 x]) (.slc (some (H.next, 0)) 1 1 (some 1)) [x] (some H.next) := o1
  have hv1 : Sl encI 1 (H.new [.int .i64 x]) (.slc p sv l.length (some l.length)) l := hv.fr hw hw.fr_new
  have hcx := o1.1.cells
  have hcl := hv1.cells
  have fl : ∀ m : List Int, m.flatMap (fun x => (encI x).cells) = m.map encI := by
    intro m
    induction m with
    | nil => rfl
    | cons a m ih => rw [List.flatMap_cons, ih]; rfl
  have ho := w1.own_new (enc := encI) (sz := 1) (l := l ++ [x]) (cs := (l ++ [x]).map encI) (cap := none) (Cell.len _) (by simp) (by simp) (by rw [fl, List.take_of_length_le]; simp)
  refine ⟨?_, by simpa [new_next] using ho, (hw.fr_new).trans w1.fr_new⟩
  unfold wsem0 wsem
  simp only
  rw [hcx.1, hcx.2]
  rw [fl] at hcl ⊢
  simp only [List.map_cons, List.map_nil]
  unfold AHeap.app
  rw [if_neg (by simp), if_neg (by simp [AV.cell]; omega)]
  cases p with
  | none =>
    have : l = [] := by
      obtain ⟨_, p, sv', cap, e, _, h2⟩ := hv
      cases p with
      | none => exact h2
      | some q => simp at e
    subst this
    rfl
  | some q =>
    obtain ⟨b, off⟩ := q
    by_cases h0 : l.length = 0
    · have : l = [] := List.eq_nil_of_length_eq_zero h0
      subst this
      rfl
    · simp only
      rw [if_neg (fun h => h0 h.1)]
      obtain ⟨hz, p', sv', cap', e, hcap, h2⟩ := hv1
      simp only [AV.slc.injEq] at e
      obtain ⟨e1, e2, _, e3⟩ := e
      subst e1
      obtain ⟨h3, f, cs, h4, h5, h6⟩ := h2
      rw [h4]
      simp only
      rw [if_pos ⟨by rw [e2]; exact h3, by simpa using h5⟩, if_neg (show ¬ l.length + [x].length ≤ l.length by simp)]
      simp only [Nat.mul_one] at h6 ⊢
      rw [h6, fl]
      simp [new_next]
theorem dig_len30 {r n k : Nat} (h : r < n) (hn : (dig n).length < k) : (dig r).length < k := Nat.lt_of_le_of_lt (dig_len_mono (Nat.le_of_lt h)) hn
theorem c459 (D : D459 T) {H : AHeap} (hw : WF H) {u v : AV} {m n : Nat} (hu : Sl encI 1 H u (dig m)) (hv : Sl encI 1 H v (dig n)) (hn0 : 0 < n) (hm : (dig m).length < 2 ^ 25) (hn : (dig n).length < 2 ^ 25) : Calls T 459 [u, v] H fun r H' => Fr H H' ∧ ∃ q t, r = .tup [q, t] ∧ Made encI 1 H.next H' q (dig (m / n)) ∧ Made encI 1 H.next H' t (dig (m % n)) := by
  refine Calls.fn D.pr D.fn ?_
  obtain ⟨la, hla⟩ : ∃ la, (dig m).length = la := ⟨_, rfl⟩
  rw [hla] at hm
  have mlt : m < 10 ^ la := by rw [← hla]; exact dig_lt m
  have ul : psem .len [u] = some (.int .i64 la) := by rw [hu.len, hla]
  simp [ir459, ul]
  refine W_loop (fun (w : Nat) e X => e 0 = u ∧ e 1 = v ∧ e 11 = u ∧ e 12 = .int .i64 la ∧ Fr H X ∧ ∃ i : Nat, w = la - i ∧ i ≤ la ∧ e 13 = .int .i64 i ∧ ∃ fq ft, Own encI 1 X (e 6) (fd i (m / 10 ^ (la - i) / n)) fq ∧ (∀ g, fq = some g → H.next ≤ g) ∧ Own encI 1 X (e 7) (dig (m / 10 ^ (la - i) % n)) ft ∧ (∀ g, fq = some g → ft ≠ some g) ∧ (∀ g, ft = some g → H.next ≤ g)) id la ?_ ?_
  · have z : m / 10 ^ (la - 0) = 0 := by rw [Nat.sub_zero]; exact Nat.div_eq_of_lt mlt
    refine ⟨rfl, rfl, rfl, rfl, .refl hw, 0, by simp, by simp, rfl, none, none, Own.nil (by simp), by simp, ?_, by simp, by simp⟩
    rw [z, Nat.zero_mod, dig_zero]
    exact Own.nil (by simp)
  · rintro w e X ⟨h0, h1, h11, h12, fr, i, hw1, hi1, h13, fq, ft, hq, hfq, ht, hft, hfo⟩
    simp [h12, h13]
    refine WB.bool ?_ ?_
    · intro hlt
      simp at hlt
      have huX := hu.fr hw fr
      obtain ⟨d, hd⟩ : ∃ d, m / 10 ^ (la - 1 - i) % 10 = d := ⟨_, rfl⟩
      have dld : nth (dig m) (i : Int) = (d : Int) := by rw [nth_dig' (by omega), hla, hd]
      have d10 : d < 10 := by rw [← hd]; exact Nat.mod_lt _ (by decide)
      obtain ⟨x, hx⟩ : ∃ x, m / 10 ^ (la - i) = x := ⟨_, rfl⟩
      have hx1 : m / 10 ^ (la - (i + 1)) = 10 * x + d := by
        have e1 : la - i = (la - 1 - i) + 1 := by omega
        rw [e1, Nat.pow_succ, ← Nat.div_div_eq_div_mul] at hx
        rw [show la - (i + 1) = la - 1 - i by omega]
        omega
      rw [hx] at hq ht
      have tl : (dig (x % n)).length < 2 ^ 25 := dig_len30 (Nat.mod_lt _ hn0) hn
      simp (disch := omega) [h11, h13, huX.ia, huX.ld, hla, dld]
      refine WC.of (c457 D.d457 ht.1 (by omega)) ?_
      rintro r X1 ⟨rfl, hr, p, sv, rfl⟩
      have ac := app_clip fr.wf hr (by omega) (d : Int)
      obtain ⟨a1, a2, a3⟩ := ac
      obtain ⟨X2, hX2⟩ : ∃ X2, (X1.new [.int .i64 (d : Int)]).new ((dig (x % n) ++ [(d : Int)]).map encI) = X2 := ⟨_, rfl⟩
      rw [hX2] at a1 a2 a3
      obtain ⟨vr, hvr⟩ : ∃ vr, AV.slc (some (X1.next + 1, 0)) 1 ((dig (x % n)).length + 1) none = vr := ⟨_, rfl⟩
      rw [hvr] at a1 a2
      simp [wsem0_bsl1 (v := .int .i64 (d : Int)) rfl]
      rw [a1]
      simp
      refine WC.of (c458 D.d458 a2.1 (by simp; omega)) ?_
      rintro r X3 ⟨rfl, hr2, hr2f⟩
      have hr2f := hr2f _ a2.2
      rw [dig_snoc d10] at hr2
      obtain ⟨y, hy⟩ : ∃ y, 10 * (x % n) + d = y := ⟨_, rfl⟩
      rw [hy] at hr2
      obtain ⟨ds1, ds2⟩ := div_step x d n hn0
      rw [hy] at ds1 ds2
      have hxn : x % n < n := Nat.mod_lt _ hn0
      have y10 : y < 10 * n := by omega
      have yl : (dig y).length < 2 ^ 26 := by
        have h1 := dig_lt n
        have h2 : (dig y).length ≤ (dig n).length + 1 := dig_len_le (by rw [Nat.pow_succ]; omega)
        omega
      have fr3 : Fr H X3 := fr.trans a3
      have hq3 := hq.fr fr.wf a3
      simp
      refine W_loop (fun (w2 : Nat) e' X' => e' 0 = u ∧ e' 1 = v ∧ e' 11 = u ∧ e' 12 = .int .i64 la ∧ e' 13 = .int .i64 i ∧ Fr H X' ∧ Own encI 1 X' (e' 6) (fd i (x / n)) fq ∧ ∃ k : Nat, w2 + k = y / n ∧ e' 10 = .int .i64 k ∧ ∃ ft, Own encI 1 X' (e' 7) (dig (y - k * n)) ft ∧ (∀ g, fq = some g → ft ≠ some g) ∧ (∀ g, ft = some g → H.next ≤ g)) id (y / n) ?_ ?_
      · exact ⟨h0, h1, h11, h12, h13, fr3, hq3, 0, by simp, rfl, _, ⟨by simpa using hr2, hr2f⟩, fun g hg e => by
          have h1 : X1.next + 1 = g := by simpa using e
          subst hg
          have := hq.2.lt fr.wf
          omega, fun g e => by
          have h1 : X1.next + 1 = g := by simpa using e
          have := fr.next
          omega⟩
      · rintro w2 e' X' ⟨x0, x1, x11, x12, x13, fr', hq', k, hk, x10, ft', ht', hft', hfo'⟩
        have hkn : k * n ≤ y := Nat.le_trans (Nat.mul_le_mul_right n (show k ≤ y / n by omega)) (Nat.div_mul_le_self y n)
        have zl : (dig (y - k * n)).length < 2 ^ 26 := Nat.lt_of_le_of_lt (dig_len_mono (Nat.sub_le _ _)) yl
        have hv' := hv.fr hw fr'
        have y9 : y / n < 10 := by rw [Nat.div_lt_iff_lt_mul hn0]; omega
        simp [x0, x1]
        refine WC.of (c461 D.d461 ht'.1 hv' (by omega) (by omega)) ?_
        rintro r X4 ⟨rfl, rfl⟩
        have hcd : (if (dig (y - k * n)).length = (dig n).length then cmpL (dig (y - k * n)) (dig n) else ((dig (y - k * n)).length : Int) - (dig n).length) = cmpD (y - k * n) n := rfl
        rw [hcd]
        simp
        refine WB.bool ?_ ?_
        · intro hge
          simp at hge
          have hge := cmpD_ge.1 hge
          simp [x1]
          refine WC.of (c477 D.d477 fr'.wf ht'.1 hv' hge (by omega)) ?_
          rintro r X5 ⟨fr5, f5, hr5, hf5⟩
          have hk2 : k + 1 ≤ y / n := by
            rw [Nat.le_div_iff_mul_le hn0, Nat.add_mul, Nat.one_mul]
            omega
          simp [x0, x1, x10, x11, x12, x13, wrap_small (n := (k : Int) + 1) (by omega) (by omega)]
          refine ⟨w2 - 1, by omega, fr'.trans fr5, hq'.fr fr'.wf fr5, k + 1, by omega, by simp, f5, by rw [Nat.add_mul, Nat.one_mul, ← Nat.sub_sub]; exact hr5, fun g hg e => ?_, fun g e => Nat.le_trans fr'.next (hf5 g e)⟩
          subst hg
          have := hq'.2.lt fr'.wf
          have := hf5 g e
          omega
        · intro hlt2
          simp at hlt2
          have hlt2 : y - k * n < n := by
            apply Classical.byContradiction
            intro hn2
            have := cmpD_ge.2 (show n ≤ y - k * n by omega)
            omega
          have hkq : k = y / n := by
            have h1 := Nat.div_add_mod y n
            have h2 : y < (k + 1) * n := by rw [Nat.add_mul, Nat.one_mul]; omega
            have h3 := Nat.div_lt_of_lt_mul (show y < n * (k + 1) by rw [Nat.mul_comm]; exact h2)
            omega
          have hrem : y - k * n = y % n := by
            have h1 := Nat.div_add_mod y n
            rw [hkq, Nat.mul_comm]
            omega
          rw [hrem] at ht'
          obtain ⟨v', X5, fq', p1, p2, p4, p3, p5⟩ := push1 (bytes := 8) fr'.wf hq' ((k : Nat) : Int) (by rw [fd_len]; omega) (by rw [fd_len]; omega)
          simp [x10, wsem0_bsl1 (v := .int .i64 (k : Int)) rfl, p1]
          simp [x0, x1, x11, x12, x13, wrap_small (n := (i : Int) + 1) (by omega) (by omega)]
          have e5 : m / 10 ^ (la - (i + 1)) / n = 10 * (x / n) + y / n := by rw [hx1, ds1]
          have e6 : m / 10 ^ (la - (i + 1)) % n = y % n := by rw [hx1, ds2]
          refine ⟨la - (i + 1), by omega, fr'.step p2 p3 fun f hf => hfq f hf, i + 1, rfl, by omega, by simp, fq', ?_, fun g hg => ?_, ft', ?_, fun g hg e => ?_, hfo'⟩
          · rw [e5, ← fd_snoc y9, ← hkq]
            exact p4
          · rcases p5 g hg with h | h
            · exact hfq g h
            · exact Nat.le_trans fr'.next h
          · rw [e6]
            exact ht'.keeps fr'.wf p3 (fun g hg h => hft' g h hg)
          · rcases p5 g hg with h | h
            · exact hft' g h e
            · subst e
              have := ht'.2.lt fr'.wf
              omega
    · intro hge
      simp at hge
      have : la = i := by omega
      subst this
      rw [Nat.sub_self, Nat.pow_zero, Nat.div_one] at hq ht
      simp
      refine WC.of (c458 D.d458 hq.1 (by rw [fd_len]; omega)) ?_
      rintro r X1 ⟨rfl, hr, hrf⟩
      have hlt : m / n < 10 ^ la := Nat.lt_of_le_of_lt (Nat.div_le_self _ _) mlt
      rw [trimZ_fd _ _ hlt] at hr
      simp
      exact ⟨fr, _, _, ⟨rfl, rfl⟩, ⟨fq, ⟨hr, hrf _ hq.2⟩, hfq⟩, ft, ht, hfo⟩
/-- A power, unless it gets too long: what the loop does. -/
def powN (m : Nat) (most : Int) : Nat → Nat → Option Nat
  | 0, a => some a
  | k + 1, a => if most < ((dig (a * m)).length : Int) then none else powN m most k (a * m)
theorem c472 (D : D472 T) {H : AHeap} (hw : WF H) {u : AV} {m n : Nat} {most : Int} (hu : Sl encI 1 H u (dig m)) (hm : (dig m).length < 2 ^ 20) (hn : n < 2 ^ 40) (hmost : most < 2 ^ 20) : Calls T 472 [u, .int .i64 (n : Int), .int .i64 most] H fun r H' => Fr H H' ∧ ∃ p, r = .tup [p, .bool (powN m most n 1).isSome] ∧ ∀ a, powN m most n 1 = some a → Made encI 1 H.next H' p (dig a) := by
  refine Calls.fn D.pr D.fn ?_
  simp [ir472]
  refine WC.of (c462 D.d462 hw (n := 1) (by omega)) ?_
  rintro r X ⟨fr, hr⟩
  simp
  refine W_loop (fun (w : Nat) e X => e 0 = u ∧ e 2 = .int .i64 most ∧ e 10 = .int .i64 n ∧ Fr H X ∧ ∃ i : Nat, w = n - i ∧ i ≤ n ∧ e 11 = .int .i64 i ∧ ∃ a, Made encI 1 H.next X (e 8) (dig a) ∧ powN m most (n - i) a = powN m most n 1 ∧ (dig a).length < 2 ^ 20) id n ?_ ?_
  · exact ⟨rfl, rfl, rfl, fr, 0, by simp, by simp, rfl, 1, hr, rfl, by rw [dig_pos (by decide), show (1:Nat) / 10 = 0 from rfl, dig_zero]; simp⟩
  · rintro w e X ⟨h0, h2, h10, fr, i, hw1, hi1, h11, a, ha, hp, hal⟩
    simp [h10, h11]
    refine WB.bool ?_ ?_
    · intro hlt
      simp at hlt
      have huX := hu.fr hw fr
      simp [h0]
      refine WC.of (c478 D.d478 fr.wf ha.sl huX hal hm) ?_
      rintro r X1 ⟨fr1, hr1⟩
      have e1 : n - i = (n - (i + 1)) + 1 := by omega
      rw [e1] at hp
      have e2 : powN m most ((n - (i + 1)) + 1) a = if most < ((dig (a * m)).length : Int) then none else powN m most (n - (i + 1)) (a * m) := rfl
      rw [e2] at hp
      simp [h2, hr1.sl.len]
      refine WB.bool ?_ ?_
      · intro h3
        simp at h3
        rw [if_pos h3] at hp
        simp [← hp]
        exact fr.trans fr1
      · intro h3
        simp at h3
        rw [if_neg (by omega)] at hp
        simp [h0, h2, h10, h11, wrap_small (n := (i : Int) + 1) (by omega) (by omega)]
        exact ⟨n - (i + 1), by omega, fr.trans fr1, i + 1, rfl, by omega, by simp, a * m, hr1.mono fr.next, hp, by omega⟩
    · intro hge
      simp at hge
      have : i = n := by omega
      subst this
      rw [Nat.sub_self] at hp
      simp only [powN] at hp
      simp [← hp]
      exact ⟨fr, ha⟩
end Go.Am
