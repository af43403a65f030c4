/- The contract of merging pairs of a scalar and its number: printed by mkpairs.py out of that of merging numbers. -/
import Derived.Test.YtepgjaknkjkpaaaDoorAmScal
set_option linter.unusedVariables false
set_option linter.unusedSimpArgs false
namespace Go.Am
variable {T : Tab}

structure PairE where
  x : Scal
  n : Int
  deriving Inhabited
def cellsP (p : PairE) : List AV := [.int .i64 p.x.kind, .int .i64 p.x.n, .str p.x.s, .bool p.x.taint, .int .i64 p.n]
abbrev encP (p : PairE) : AV := .agg (cellsP p)
theorem allP (l : List PairE) : ∀ y ∈ l, (encP y).cells.all AV.cell = true := fun y _ => by simp [AV.cells, AV.cell, cellsP]

theorem c190 (D : D190 T) {H : AHeap} (hw : WF H) {v : AV} {l : List PairE} (hv : Sl encP 5 H v l) (hl : l.length ≤ 2 ^ 30) : Calls T 190 [v] H fun r H' => Fr H H' ∧ Made encP 5 H.next H' r l := by
  refine Calls.fn D.pr D.fn ?_
  obtain ⟨p, sv, cap, rfl⟩ : ∃ p sv cap, v = .slc p sv l.length cap := by obtain ⟨_, p, sv, cap, e, _⟩ := hv; exact ⟨p, sv, cap, e⟩
  simp [ir190]
  refine WB.bool ?_ ?_
  · intro h
    simp at h
    subst h
    have : l = [] := by obtain ⟨_, p, sv, cap, e, _, h⟩ := hv; cases e; exact h
    subst this
    simp
    exact ⟨.refl hw, .nil⟩
  · intro h
    simp
    have e := hw.own_new (enc := encP) (sz := 5) (l := []) (cs := []) (cap := some 0) (by simp) (by simp) (by simp) (by simp)
    obtain ⟨v', H', q1, q2, q3⟩ := app_made (bytes := 48) hw.fr_new (⟨some H.next, e, by simp⟩ : Made encP 5 H.next (H.new []) _ []) (hv.fr hw hw.fr_new) (by simp) (allP _) (by simp; omega) (by simp; omega)
    simp at q1
    simp [q1]
    exact ⟨q2, q3⟩

theorem c171 (D : D171 T) {σ : Type} {f : Nat} {caps : List AV} {n0 : Nat} {Dm : Nat → Prop} {CI : σ → AHeap → Prop} {cmp : σ → PairE → PairE → Int × σ} {ok : PairE → Prop} {tick : σ → Nat} {N : Nat} (hc : CmpOk T encP f caps n0 Dm CI cmp ok tick N) (n : Nat) :
    ∀ (l : List PairE) (v : AV) (H : AHeap) (s : σ), l.length ≤ n + 1 → n ≤ 2 ^ 20 → tick s + l.length * (n + 1) ≤ N → WF H → n0 ≤ H.next → CI s H → Rd Dm encP 5 H v l → (∀ x ∈ l, ok x) →
    Calls T 171 [v, .fn f [] caps] H fun r H' => WF H' ∧ Made encP 5 H.next H' r (sortN cmp (n + 1) l s).1 ∧ CI (sortN cmp (n + 1) l s).2 H' ∧ Keeps (fun g => Dm g ∨ H.next ≤ g) H H' := by
  induction n using Nat.strongRecOn with
  | _ n ih =>
    intro l v H s hl hn hN hw hn0 hci hv hok
    refine Calls.fn D.pr D.fn ?_
    simp [ir171, hv.sl.len]
    refine WB.bool ?_ ?_
    · intro h
      simp at h
      simp
      refine WC.of (c190 D.d190 hw hv.sl (by omega)) ?_
      rintro r H' ⟨h1, h2⟩
      simp
      have e : sortN cmp (n + 1) l s = (l, s) := by unfold sortN; rw [if_pos (by omega)]
      rw [e]
      exact ⟨h1.wf, h2, hc.stable s H H' hw hn0 hci (h1.keeps.mono fun g hg => Nat.le_trans hn0 hg), h1.keeps.mono fun g hg => .inr hg⟩
    · intro h
      simp at h
      obtain ⟨m, rfl⟩ : ∃ m, n = m + 1 := ⟨n - 1, by omega⟩
      obtain ⟨va, _, _, ca, ra⟩ := hv.cut 0 (l.length / 2) (by omega) (by omega)
      obtain ⟨vb, _, cb, _, rb⟩ := hv.cut (l.length / 2) l.length (by omega) (by omega)
      simp at ca cb ra rb
      simp (disch := omega) [hv.sl.len, tdiv2, wrap64, ca, cb]
      have hT := sortN_tick hc.step (m + 1) (l.take (l.length / 2)) s
      have hT2 := sortN_tick hc.step (m + 1) (l.drop (l.length / 2)) (sortN cmp (m + 1) (l.take (l.length / 2)) s).2
      have hLe : (l.take (l.length / 2)).length * (m + 1) + (l.drop (l.length / 2)).length * (m + 1) + l.length = l.length * (m + 1 + 1) := by
        rw [← Nat.add_mul, Nat.mul_add l.length, Nat.mul_one, ← List.length_append, List.take_append_drop]
      have hNa : tick s + (l.take (l.length / 2)).length * (m + 1) ≤ N := by omega
      have hNb : tick (sortN cmp (m + 1) (l.take (l.length / 2)) s).2 + (l.drop (l.length / 2)).length * (m + 1) ≤ N := by omega
      have hNm : tick (sortN cmp (m + 1) (l.drop (l.length / 2)) (sortN cmp (m + 1) (l.take (l.length / 2)) s).2).2 + l.length ≤ N := by omega
      refine WC.of (ih m (by omega) (l.take (l.length / 2)) va H s (by simp; omega) (by omega) hNa hw hn0 hci ra (fun x hx => hok x (List.mem_of_mem_take hx))) ?_
      rintro a0 H1 ⟨w1, m1, i1, k1⟩
      simp (disch := omega) [cb]
      refine WC.of (ih m (by omega) (l.drop (l.length / 2)) vb H1 _ (by simp; omega) (by omega) hNb w1 (Nat.le_trans hn0 k1.next) i1 (rb.keeps hw k1) (fun x hx => hok x (List.mem_of_mem_drop hx))) ?_
      rintro b0 H2 ⟨w2, m2, i2, k2⟩
      simp
      have eS : sortN cmp (m + 1 + 1) l s = mergeL cmp (sortN cmp (m + 1) (l.take (l.length / 2)) s).1 (sortN cmp (m + 1) (l.drop (l.length / 2)) (sortN cmp (m + 1) (l.take (l.length / 2)) s).2).1 (sortN cmp (m + 1) (l.drop (l.length / 2)) (sortN cmp (m + 1) (l.take (l.length / 2)) s).2).2 := by
        rw [sortN, if_neg (by omega)]
      rw [eS]
      have pA := sortN_perm (cmp := cmp) (m + 1) (l.take (l.length / 2)) s
      have pB := sortN_perm (cmp := cmp) (m + 1) (l.drop (l.length / 2)) (sortN cmp (m + 1) (l.take (l.length / 2)) s).2
      generalize sortN cmp (m + 1) (l.take (l.length / 2)) s = A at m1 m2 i1 i2 pA pB hNm ⊢
      generalize sortN cmp (m + 1) (l.drop (l.length / 2)) A.2 = B at m2 i2 pB hNm ⊢
      have lA := pA.length_eq
      have lB := pB.length_eq
      simp at lA lB
      have rA := (m1.rd (D := Dm) fun g hg => Nat.lt_of_lt_of_le (hc.low g hg) hn0).keeps w1 k2
      have rB := m2.rd (D := Dm) fun g hg => Nat.lt_of_lt_of_le (hc.low g hg) (Nat.le_trans hn0 k1.next)
      have hn2 : H.next ≤ H2.next := Nat.le_trans k1.next k2.next
      refine W_loop (fun (i : List PairE × List PairE × σ × List PairE) e H' => WF H' ∧ Keeps (fun g => Dm g ∨ H2.next ≤ g) H2 H' ∧ CI i.2.2.1 H' ∧ e 1 = .fn f [] caps ∧ (∃ av, e 6 = av ∧ Rd Dm encP 5 H2 av i.1) ∧ (∃ bv, e 7 = bv ∧ Rd Dm encP 5 H2 bv i.2.1) ∧
        (∃ ov, e 8 = ov ∧ Made encP 5 H2.next H' ov i.2.2.2) ∧ (∀ x ∈ i.1, ok x) ∧ (∀ x ∈ i.2.1, ok x) ∧ i.1.length + i.2.1.length + i.2.2.2.length ≤ l.length ∧ tick i.2.2.1 + (i.1.length + i.2.1.length) ≤ N ∧
        mergeL cmp A.1 B.1 B.2 = (i.2.2.2 ++ (mergeL cmp i.1 i.2.1 i.2.2.1).1, (mergeL cmp i.1 i.2.1 i.2.2.1).2)) (fun i => i.1.length + i.2.1.length) (A.1, B.1, B.2, []) ?_ ?_
      · refine ⟨w2, .refl, i2, by simp, ⟨a0, by simp, rA⟩, ⟨b0, by simp, rB⟩, ⟨.slc none 0 0 none, by simp, .nil⟩, fun x hx => hok x (List.mem_of_mem_take (pA.mem_iff.1 hx)), fun x hx => hok x (List.mem_of_mem_drop (pB.mem_iff.1 hx)), by simp; omega, by simp; omega, by simp⟩
      · rintro ⟨la, lb, t, acc⟩ e H' ⟨w, kp, ci, h1, ⟨av, h6, ra⟩, ⟨bv, h7, rb⟩, ⟨ov, h8, mo⟩, oka, okb, hlen, htk, heq⟩
        simp only at ci ra rb mo oka okb hlen htk heq
        have ra' := ra.keeps w2 kp
        have rb' := rb.keeps w2 kp
        have hne : H2.next ≤ H'.next := kp.next
        have tail : (la = [] ∨ lb = []) → la.length + lb.length + acc.length ≤ l.length → ∃ v1 H3 v2 H4, wsem0 (.app 5 48) [ov, av] H' = some (v1, H3) ∧ wsem0 (.app 5 48) [v1, bv] H3 = some (v2, H4) ∧
            (WF H4 ∧ Made encP 5 H.next H4 v2 (mergeL cmp A.1 B.1 B.2).1 ∧ CI (mergeL cmp A.1 B.1 B.2).2 H4 ∧ Keeps (fun g => Dm g ∨ H.next ≤ g) H H4) := by
          intro hx hlen
          obtain ⟨v1, H3, q1, q2, q3, q4⟩ := app_n (bytes := 48) w hne mo ra'.sl (by simp) (allP _) (by omega) (by omega)
          have kp3 : Keeps (fun g => Dm g ∨ H2.next ≤ g) H2 H3 := kp.trans (q3.mono fun g hg => .inr hg)
          have rb3 := rb.keeps w2 kp3
          obtain ⟨v2, H4, r1, r2, r3, r4⟩ := app_n (bytes := 48) q2 kp3.next q4 rb3.sl (by simp) (allP _) (by rw [List.length_append]; omega) (by rw [List.length_append]; omega)
          refine ⟨v1, H3, v2, H4, q1, r1, r2, ?_, ?_, ?_⟩
          · have : (mergeL cmp A.1 B.1 B.2).1 = acc ++ la ++ lb := by rw [heq]; rcases hx with rfl | rfl <;> simp [mergeL_nil, mergeL_nil']
            rw [this]
            exact r4.mono hn2
          · have : (mergeL cmp A.1 B.1 B.2).2 = t := by rw [heq]; rcases hx with rfl | rfl <;> simp [mergeL_nil, mergeL_nil']
            rw [this]
            have i3 := hc.stable _ H' H3 w (by omega) ci (q3.mono fun g hg => by omega)
            exact hc.stable _ H3 H4 q2 (by have := q3.next; omega) i3 (r3.mono fun g hg => by omega)
          · have k4 : Keeps (fun g => Dm g ∨ H.next ≤ g) H1 H4 := (k2.mono fun g hg => hg.imp id fun h => Nat.le_trans k1.next h).trans ((kp3.trans (r3.mono fun g hg => .inr hg)).mono fun g hg => hg.imp id fun h => Nat.le_trans hn2 h)
            exact k1.trans k4
        cases la with
        | nil =>
          obtain ⟨v1, H3, v2, H4, q1, q2, q3⟩ := tail (.inl rfl) hlen
          simp [h1, h6, h7, h8, ra'.sl.len, rb'.sl.len, q1, q2]
          exact q3
        | cons x la =>
          have ia0 : psem (.ia 5) [av, .int .i64 0] = some (elt av 5 0) := ra'.sl.ia (by omega) (by simp)
          have ld0 := fun {K : AHeap} (hK : Rd Dm encP 5 K av (x :: la)) => hK.sl.ldA (i := 0) (by omega) (by simp) (cs := cellsP x) rfl
          cases lb with
          | nil =>
            obtain ⟨v1, H3, v2, H4, q1, q2, q3⟩ := tail (.inr rfl) hlen
            simp [h1, h6, h7, h8, ra'.sl.len, rb'.sl.len, q1, q2]
            exact q3
          | cons y lb =>
            have ib0 : psem (.ia 5) [bv, .int .i64 0] = some (elt bv 5 0) := rb'.sl.ia (by omega) (by simp)
            have le0 := fun {K : AHeap} (hK : Rd Dm encP 5 K bv (y :: lb)) => hK.sl.ldA (i := 0) (by omega) (by simp) (cs := cellsP y) rfl
            simp [h1, h6, h7, h8, ra'.sl.len, rb'.sl.len, ia0, ib0, ld0 ra', le0 rb']
            refine WC.of (hc.call t H' x y (oka x (by simp)) (okb y (by simp)) (by simp at htk; omega) w (Nat.le_trans hn0 (Nat.le_trans hn2 hne)) ci) ?_
            rintro r H3 ⟨rfl, w3, i3, k3⟩
            have kp3 : Keeps (fun g => Dm g ∨ H2.next ≤ g) H2 H3 := kp.trans (k3.mono fun g hg => .inl hg)
            have ra3 := ra.keeps w2 kp3
            have rb3 := rb.keeps w2 kp3
            have hn3 : H2.next ≤ H3.next := kp3.next
            have mo3 := mo.keeps w k3 fun g hg _ hd => by have := hc.low g hd; omega
            simp at hlen
            have hst := hc.step t x y
            simp at htk
            simp
            refine WB.bool ?_ ?_
            · intro hgt
              simp at hgt
              obtain ⟨bv', _, cb', _, rb4⟩ := rb.cut 1 (lb.length + 1) (by omega) (by simp)
              simp at cb' rb4
              obtain ⟨ov', H4, p1, p2, p3, p4⟩ := push_a (bytes := 48) w3 hn3 mo3 y (by simp) rfl (allP [y] y (by simp)) (by omega) (by omega)
              simp only [AV.cells] at p1
              simp [-Prod.exists, h7, h8, ib0, le0 rb3, wsem0_bslA (n := 5) (cs := cellsP y) (z := [.int .i64 0, .int .i64 0, .str [], .bool false, .int .i64 0]) rfl rfl (allP [y] y (by simp)) (by simp), p1, cb']
              refine ⟨(x :: la, lb, (cmp t x y).2, acc ++ [y]), by simp, ?_⟩
              refine ⟨p2, kp3.trans (p3.mono fun g hg => .inr hg), hc.stable _ H3 H4 w3 (by omega) i3 (p3.mono fun g hg => by omega), h1, ?_, rb4, p4, oka, fun z hz => okb z (by simp [hz]), by simp; omega, by simp; omega, ?_⟩
              · rw [h6]; exact ra
              · rw [heq, mergeL_cons, if_pos hgt]; simp
            · intro hgt
              simp at hgt
              obtain ⟨av', _, ca', _, ra4⟩ := ra.cut 1 (la.length + 1) (by omega) (by simp)
              simp at ca' ra4
              obtain ⟨ov', H4, p1, p2, p3, p4⟩ := push_a (bytes := 48) w3 hn3 mo3 x (by simp) rfl (allP [x] x (by simp)) (by omega) (by omega)
              simp only [AV.cells] at p1
              simp [-Prod.exists, h6, h8, ia0, ld0 ra3, wsem0_bslA (n := 5) (cs := cellsP x) (z := [.int .i64 0, .int .i64 0, .str [], .bool false, .int .i64 0]) rfl rfl (allP [x] x (by simp)) (by simp), p1, ca']
              refine ⟨(la, y :: lb, (cmp t x y).2, acc ++ [x]), by simp, ?_⟩
              refine ⟨p2, kp3.trans (p3.mono fun g hg => .inr hg), hc.stable _ H3 H4 w3 (by omega) i3 (p3.mono fun g hg => by omega), h1, ra4, ?_, p4, fun z hz => oka z (by simp [hz]), okb, by simp; omega, by simp; omega, ?_⟩
              · rw [h7]; exact rb
              · rw [heq, mergeL_cons, if_neg (by omega)]; simp
end Go.Am
